/- The row of FnExactHasState: an argument that reads as data is laid open, the walk of the law and the pure statement give 'true', and the argument reads as before. Conditions: those of the given statement alone. -/
import Derived.Test.YtdepiibcopbjlaaRows
import Derived.Test.YtdepiibcopbjlaaOpenFnExactHasState
import Derived.Test.YtdepiibcopbjlaaPureFnExactHasState
import Derived.WalkKit
import Derived.ProofKit
import Derived.OpenShut
import Derived.ShutString
import Derived.ChangeOld
import Derived.Below
import Derived.SizedLaws
import Derived.Carry
namespace Go.Proofs.Ytdepiibcopbjlaa.fnExactHasState
open Go.ChangeShapes Go.WideShapes Go.ChangeAt Go.RowKit Go.Proofs.Ytdepiibcopbjlaa.PFnExactHasState Go.Proofs.YtdepiibcopbjlaaW.PrintWords Go.Proofs.Ytdepiibcopbjlaa
set_option linter.unusedVariables false
set_option linter.unusedSimpArgs false
theorem own : ownKnob Try.prog.godebug = none := by kernel_rfl
theorem laidOut : laidOutB Try.prog = true := by kernel_rfl
set_option maxRecDepth 100000 in
theorem lifted (os : Os) (started : os.Started) (H : Type) (enc : TypeId × Value → H) :
    ReturnsInHanded {} Try.checked os 7 .any (Rows.fnExactHasStateSpec.pre6 enc Try.prog Try.f7 Rows.fnExactHasStateRow.domain false) (Rows.fnExactHasStateSpec.post enc Try.prog Try.f7 false true false false) := by
  refine returnsInHanded_of_change_sized (C := Try.checked) own started (by kernel_rfl) Try.func7
    (ChangeSpec.witness6 (enc := enc) (C := Try.checked) false ⟨#[], #[.slice none 0 0, .agg #[.string ByteArray.empty, .string ByteArray.empty, .slice none 0 0]], []⟩ 8 (by kernel_rfl) (by kernel_rfl) (by kernel_rfl) (by kernel_rfl)) ?_
  intro W base args ds gs before hval0 hW hcnd hsz0 _
  have hval : ∀ (j : Nat) t v, Try.f7.params[j]? = some t → args[j]? = some v → Value.okWide Try.prog W .any base t v := hval0
  have hW' := hW
  obtain ⟨p, q, hA0, hV, rfl, hfz, hnd⟩ := hW
  have hA : DataW.TrodAll enc Try.prog W 0 (fun _ => true) true Try.f7.params.toList args.toList ds p := hA0
  rw [Try.params7] at hA hval
  obtain ⟨v0, vs0, d0, ds0, p0, q0, hargs, rfl, rfl, h0, r0⟩ := trodAll_cons hA
  obtain ⟨v1, vs1, d1, ds1, p1, q1, rfl, rfl, rfl, h1, r1⟩ := trodAll_cons r0
  obtain ⟨rfl, rfl, rfl⟩ := trodAll_nil r1
  obtain rfl : args = #[v0, v1] := by cases args; simp_all
  obtain ⟨rfl, rfl⟩ := trodVars_none hV
  have lt0 : ∀ x ∈ p0, x.block < W.heap.size := by obtain ⟨m, hm⟩ := h0; exact DataW.trod_lt m _ _ _ hm
  have k0_ := h0
  obtain ⟨fuel0, t0⟩ := h0
  obtain ⟨a0, len0, cap0, rfl⟩ := okWide_slice Try.underlying37 (hval 0 37 v0 rfl rfl)
  obtain ⟨A0, c0, x0, e0, l0, g0, o0⟩ := Opn.trod_slice (k := k40) (Ok := fun a => Ok40 a) Try.underlying37 cz40 (c := .slice a0 len0 cap0) t0 (fun m _ cs y hy => open40 m cs y hy)
  obtain ⟨rfl, rfl, rfl⟩ := (Value.slice.injEq _ _ _ _ _ _).mp e0
  have lt1 : ∀ x ∈ p1, x.block < W.heap.size := by obtain ⟨m, hm⟩ := h1; exact DataW.trod_lt m _ _ _ hm
  have k1_ := h1
  obtain ⟨fuel1, t1⟩ := h1
  obtain ⟨ca1, rfl⟩ : ∃ ca, v1 = .agg ca := by
    have z := (hval 1 40 v1 rfl rfl)
    unfold Value.okWide at z
    rw [Try.underlying40] at z
    obtain ⟨ca, e_, _⟩ := z
    exact ⟨ca, e_⟩
  obtain ⟨x1, K1, o1⟩ := open40 fuel1 _ _ t1
  obtain ⟨A1_2, c1_2, e1, l1_2, g1_2⟩ := k40_open K1
  obtain rfl : ca1 = #[.string x1.f0, .string x1.f1, .slice A1_2 x1.f2.length c1_2] := by
    apply Array.ext'
    exact e1
  obtain ⟨k, h⟩ := (Pure.FnExactHasState : PureS) x0 x1 ⟨Kd.C_max g0, o0⟩ o1
  refine (PFnExactHasState.laws_FnExactHasState.calls k _ _ x0 (x1.f0) (x1.f1) _ _ (x1.f2) true W g0 l0 g1_2 l1_2 h).mono ?_
  rintro e W' ⟨he, bel0⟩
  have bel : Below W.heap.size W W' := bel0
  subst he
  exact ⟨_, rfl, _, _, _, [], _, [], hW', trodAll_mk1 (shut_bool Try.underlying4 _), (trodAll_cons_mk (Below.trod laidOut (by kernel_rfl) (of_decide_eq_true (by kernel_rfl)) k0_ bel lt0) (trodAll_cons_mk (Below.trod laidOut (by kernel_rfl) (of_decide_eq_true (by kernel_rfl)) k1_ bel lt1) trodAll_mk0)), rfl, bel.frame _, fun h => by cases h⟩
theorem over : Rows.fnExactHasStateRow.holds Try.pinned (OpenSpec.ofChange Rows.fnExactHasStateSpec) :=
  OpenClaim.holds_of_wide 7 Try.f7 rfl rfl rfl rfl rfl rfl rfl ⟨rfl, rfl, rfl, rfl, rfl⟩ rfl rfl rfl rfl rfl (by kernel_rfl) Try.func7 (by kernel_rfl)
    (of_decide_eq_true (by kernel_rfl)) (by unfold Func.isWrapper; first | (rw [if_pos (by decide +kernel)]; kernel_rfl) | (rw [if_neg (by decide +kernel)]; exact ⟨rfl, rfl⟩))
    (fun os started H enc _ => lifted os started H enc)
theorem proved : Rows.FnExactHasStateSaid := over
#print axioms proved
end Go.Proofs.Ytdepiibcopbjlaa.fnExactHasState
namespace Go.Proofs.Ytdepiibcopbjlaa
/-- The row, under a short name, for the claim. -/
theorem fnExactHasState_holds : Rows.FnExactHasStateSaid := fnExactHasState.proved
end Go.Proofs.Ytdepiibcopbjlaa
