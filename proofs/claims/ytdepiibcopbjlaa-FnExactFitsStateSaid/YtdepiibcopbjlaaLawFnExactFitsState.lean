/- The row of FnExactFitsState: an argument that reads as data is laid open, the walk of the law and the pure statement give 'true', and the argument reads as before. Conditions: those of the given statement alone. -/
import Derived.Test.YtdepiibcopbjlaaRows
import Derived.Test.YtdepiibcopbjlaaOpenFnExactFitsState
import Derived.Test.YtdepiibcopbjlaaPureFnExactFitsState
import Derived.WalkKit
import Derived.ProofKit
import Derived.OpenShut
import Derived.ShutString
import Derived.ChangeOld
import Derived.Below
import Derived.SizedLaws
import Derived.Carry
namespace Go.Proofs.Ytdepiibcopbjlaa.fnExactFitsState
open Go.ChangeShapes Go.WideShapes Go.ChangeAt Go.RowKit Go.Proofs.Ytdepiibcopbjlaa.PFnExactFitsState Go.Proofs.YtdepiibcopbjlaaW.PrintWords Go.Proofs.Ytdepiibcopbjlaa
set_option linter.unusedVariables false
set_option linter.unusedSimpArgs false
theorem own : ownKnob Try.prog.godebug = none := by kernel_rfl
theorem laidOut : laidOutB Try.prog = true := by kernel_rfl
set_option maxRecDepth 100000 in
theorem lifted (os : Os) (started : os.Started) (H : Type) (enc : TypeId × Value → H) :
    ReturnsInHanded {} Try.checked os 9 .any (Rows.fnExactFitsStateSpec.pre6 enc Try.prog Try.f9 Rows.fnExactFitsStateRow.domain false) (Rows.fnExactFitsStateSpec.post enc Try.prog Try.f9 false true false false) := by
  refine returnsInHanded_of_change_sized (C := Try.checked) own started (by kernel_rfl) Try.func9
    (ChangeSpec.witness6 (enc := enc) (C := Try.checked) false ⟨#[], #[.agg #[.string ByteArray.empty, .string ByteArray.empty, .slice none 0 0, .slice none 0 0, .slice none 0 0, .slice none 0 0], .agg #[.string ByteArray.empty, .string ByteArray.empty, .slice none 0 0], .agg #[.string ByteArray.empty, .string ByteArray.empty, .string ByteArray.empty]], []⟩ 8 (by kernel_rfl) (by kernel_rfl) (by kernel_rfl) (by kernel_rfl)) ?_
  intro W base args ds gs before hval0 hW hcnd hsz0 _
  have hval : ∀ (j : Nat) t v, Try.f9.params[j]? = some t → args[j]? = some v → Value.okWide Try.prog W .any base t v := hval0
  have hW' := hW
  obtain ⟨p, q, hA0, hV, rfl, hfz, hnd⟩ := hW
  have hA : DataW.TrodAll enc Try.prog W 0 (fun _ => true) true Try.f9.params.toList args.toList ds p := hA0
  rw [Try.params9] at hA hval
  obtain ⟨v0, vs0, d0, ds0, p0, q0, hargs, rfl, rfl, h0, r0⟩ := trodAll_cons hA
  obtain ⟨v1, vs1, d1, ds1, p1, q1, rfl, rfl, rfl, h1, r1⟩ := trodAll_cons r0
  obtain ⟨v2, vs2, d2, ds2, p2, q2, rfl, rfl, rfl, h2, r2⟩ := trodAll_cons r1
  obtain ⟨rfl, rfl, rfl⟩ := trodAll_nil r2
  obtain rfl : args = #[v0, v1, v2] := by cases args; simp_all
  obtain ⟨rfl, rfl⟩ := trodVars_none hV
  have lt0 : ∀ x ∈ p0, x.block < W.heap.size := by obtain ⟨m, hm⟩ := h0; exact DataW.trod_lt m _ _ _ hm
  have k0_ := h0
  obtain ⟨fuel0, t0⟩ := h0
  obtain ⟨ca0, rfl⟩ : ∃ ca, v0 = .agg ca := by
    have z := (hval 0 68 v0 rfl rfl)
    unfold Value.okWide at z
    rw [Try.underlying68] at z
    obtain ⟨ca, e_, _⟩ := z
    exact ⟨ca, e_⟩
  obtain ⟨x0, K0, o0⟩ := open68 fuel0 _ _ t0
  obtain ⟨A0_2, c0_2, A0_3, c0_3, A0_4, c0_4, A0_5, c0_5, e0, l0_2, g0_2, l0_3, g0_3, l0_4, g0_4, l0_5, g0_5⟩ := k68_open K0
  obtain rfl : ca0 = #[.string x0.f0.f0, .string x0.f0.f1, .slice A0_2 x0.f1.f0.length c0_2, .slice A0_3 x0.f1.f1.length c0_3, .slice A0_4 x0.f1.f2.length c0_4, .slice A0_5 x0.f2.length c0_5] := by
    apply Array.ext'
    exact e0
  have lt1 : ∀ x ∈ p1, x.block < W.heap.size := by obtain ⟨m, hm⟩ := h1; exact DataW.trod_lt m _ _ _ hm
  have k1_ := h1
  obtain ⟨fuel1, t1⟩ := h1
  obtain ⟨ca1, rfl⟩ : ∃ ca, v1 = .agg ca := by
    have z := (hval 1 40 v1 rfl rfl)
    unfold Value.okWide at z
    rw [Try.underlying40] at z
    obtain ⟨ca, e_, _⟩ := z
    exact ⟨ca, e_⟩
  obtain ⟨x1, K1, o1⟩ := open40 fuel1 _ _ t1
  obtain ⟨A1_2, c1_2, e1, l1_2, g1_2⟩ := k40_open K1
  obtain rfl : ca1 = #[.string x1.f0, .string x1.f1, .slice A1_2 x1.f2.length c1_2] := by
    apply Array.ext'
    exact e1
  have lt2 : ∀ x ∈ p2, x.block < W.heap.size := by obtain ⟨m, hm⟩ := h2; exact DataW.trod_lt m _ _ _ hm
  have k2_ := h2
  obtain ⟨fuel2, t2⟩ := h2
  obtain ⟨ca2, rfl⟩ : ∃ ca, v2 = .agg ca := by
    have z := (hval 2 52 v2 rfl rfl)
    unfold Value.okWide at z
    rw [Try.underlying52] at z
    obtain ⟨ca, e_, _⟩ := z
    exact ⟨ca, e_⟩
  obtain ⟨x2, K2, o2⟩ := open52 fuel2 _ _ t2
  have e2 := k52_open K2
  obtain rfl : ca2 = #[.string x2.f0, .string x2.f1, .string x2.f2] := by
    apply Array.ext'
    exact e2
  obtain ⟨k, h⟩ := (Pure.FnExactFitsState : PureS) x0 x1 x2 o0 o1 o2
  refine (PFnExactFitsState.laws_FnExactFitsState.calls k (x0.f0.f0) (x0.f0.f1) _ _ (x0.f1.f0) _ _ (x0.f1.f1) _ _ (x0.f1.f2) _ _ (x0.f2) (x1.f0) (x1.f1) _ _ (x1.f2) (x2.f0) (x2.f1) (x2.f2) true W g0_2 l0_2 g0_3 l0_3 g0_4 l0_4 g0_5 l0_5 g1_2 l1_2 h).mono ?_
  rintro e W' ⟨he, bel0⟩
  have bel : Below W.heap.size W W' := bel0
  subst he
  exact ⟨_, rfl, _, _, _, [], _, [], hW', trodAll_mk1 (shut_bool Try.underlying4 _), (trodAll_cons_mk (Below.trod laidOut (by kernel_rfl) (of_decide_eq_true (by kernel_rfl)) k0_ bel lt0) (trodAll_cons_mk (Below.trod laidOut (by kernel_rfl) (of_decide_eq_true (by kernel_rfl)) k1_ bel lt1) (trodAll_cons_mk (Below.trod laidOut (by kernel_rfl) (of_decide_eq_true (by kernel_rfl)) k2_ bel lt2) trodAll_mk0))), rfl, bel.frame _, fun h => by cases h⟩
theorem over : Rows.fnExactFitsStateRow.holds Try.pinned (OpenSpec.ofChange Rows.fnExactFitsStateSpec) :=
  OpenClaim.holds_of_wide 9 Try.f9 rfl rfl rfl rfl rfl rfl rfl ⟨rfl, rfl, rfl, rfl, rfl⟩ rfl rfl rfl rfl rfl (by kernel_rfl) Try.func9 (by kernel_rfl)
    (of_decide_eq_true (by kernel_rfl)) (by unfold Func.isWrapper; first | (rw [if_pos (by decide +kernel)]; kernel_rfl) | (rw [if_neg (by decide +kernel)]; exact ⟨rfl, rfl⟩))
    (fun os started H enc _ => lifted os started H enc)
theorem proved : Rows.FnExactFitsStateSaid := over
#print axioms proved
end Go.Proofs.Ytdepiibcopbjlaa.fnExactFitsState
namespace Go.Proofs.Ytdepiibcopbjlaa
/-- The row, under a short name, for the claim. -/
theorem fnExactFitsState_holds : Rows.FnExactFitsStateSaid := fnExactFitsState.proved
end Go.Proofs.Ytdepiibcopbjlaa
