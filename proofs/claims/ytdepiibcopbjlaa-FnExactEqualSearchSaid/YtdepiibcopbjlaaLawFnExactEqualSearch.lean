/- The row of FnExactEqualSearch: an argument that reads as data is laid open, the walk of the law and the pure statement give 'true', and the argument reads as before. Conditions: those of the given statement alone. -/
import Derived.Test.YtdepiibcopbjlaaRows
import Derived.Test.YtdepiibcopbjlaaOpenFnExactEqualSearch
import Derived.Test.YtdepiibcopbjlaaPureFnExactEqualSearch
import Derived.WalkKit
import Derived.ProofKit
import Derived.OpenShut
import Derived.ShutString
import Derived.ChangeOld
import Derived.Below
import Derived.SizedLaws
import Derived.Carry
namespace Go.Proofs.Ytdepiibcopbjlaa.fnExactEqualSearch
open Go.ChangeShapes Go.WideShapes Go.ChangeAt Go.RowKit Go.Proofs.Ytdepiibcopbjlaa.PFnExactEqualSearch Go.Proofs.YtdepiibcopbjlaaW.PrintWords Go.Proofs.Ytdepiibcopbjlaa
set_option linter.unusedVariables false
set_option linter.unusedSimpArgs false
theorem own : ownKnob Try.prog.godebug = none := by kernel_rfl
theorem laidOut : laidOutB Try.prog = true := by kernel_rfl
set_option maxRecDepth 100000 in
theorem lifted (os : Os) (started : os.Started) (H : Type) (enc : TypeId × Value → H) :
    ReturnsInHanded {} Try.checked os 8 .any (Rows.fnExactEqualSearchSpec.pre6 enc Try.prog Try.f8 Rows.fnExactEqualSearchRow.domain false) (Rows.fnExactEqualSearchSpec.post enc Try.prog Try.f8 false true false false) := by
  refine returnsInHanded_of_change_sized (C := Try.checked) own started (by kernel_rfl) Try.func8
    (ChangeSpec.witness6 (enc := enc) (C := Try.checked) false ⟨#[], #[.agg #[.int .i64 0, .slice none 0 0, .string ByteArray.empty, .string ByteArray.empty, .string ByteArray.empty], .agg #[.int .i64 0, .slice none 0 0, .string ByteArray.empty, .string ByteArray.empty, .string ByteArray.empty]], []⟩ 8 (by kernel_rfl) (by kernel_rfl) (by kernel_rfl) (by kernel_rfl)) ?_
  intro W base args ds gs before hval0 hW hcnd hsz0 _
  have hval : ∀ (j : Nat) t v, Try.f8.params[j]? = some t → args[j]? = some v → Value.okWide Try.prog W .any base t v := hval0
  have hW' := hW
  obtain ⟨p, q, hA0, hV, rfl, hfz, hnd⟩ := hW
  have hA : DataW.TrodAll enc Try.prog W 0 (fun _ => true) true Try.f8.params.toList args.toList ds p := hA0
  rw [Try.params8] at hA hval
  obtain ⟨v0, vs0, d0, ds0, p0, q0, hargs, rfl, rfl, h0, r0⟩ := trodAll_cons hA
  obtain ⟨v1, vs1, d1, ds1, p1, q1, rfl, rfl, rfl, h1, r1⟩ := trodAll_cons r0
  obtain ⟨rfl, rfl, rfl⟩ := trodAll_nil r1
  obtain rfl : args = #[v0, v1] := by cases args; simp_all
  obtain ⟨rfl, rfl⟩ := trodVars_none hV
  have lt0 : ∀ x ∈ p0, x.block < W.heap.size := by obtain ⟨m, hm⟩ := h0; exact DataW.trod_lt m _ _ _ hm
  have k0_ := h0
  obtain ⟨fuel0, t0⟩ := h0
  obtain ⟨ca0, rfl⟩ : ∃ ca, v0 = .agg ca := by
    have z := (hval 0 54 v0 rfl rfl)
    unfold Value.okWide at z
    rw [Try.underlying54] at z
    obtain ⟨ca, e_, _⟩ := z
    exact ⟨ca, e_⟩
  obtain ⟨x0, K0, o0⟩ := open54 fuel0 _ _ t0
  obtain ⟨A0_1, c0_1, e0, l0_1, g0_1⟩ := k54_open K0
  obtain rfl : ca0 = #[.int .i64 x0.f0, .slice A0_1 x0.f1.length c0_1, .string x0.f2.f0, .string x0.f2.f1, .string x0.f2.f2] := by
    apply Array.ext'
    exact e0
  have lt1 : ∀ x ∈ p1, x.block < W.heap.size := by obtain ⟨m, hm⟩ := h1; exact DataW.trod_lt m _ _ _ hm
  have k1_ := h1
  obtain ⟨fuel1, t1⟩ := h1
  obtain ⟨ca1, rfl⟩ : ∃ ca, v1 = .agg ca := by
    have z := (hval 1 54 v1 rfl rfl)
    unfold Value.okWide at z
    rw [Try.underlying54] at z
    obtain ⟨ca, e_, _⟩ := z
    exact ⟨ca, e_⟩
  obtain ⟨x1, K1, o1⟩ := open54 fuel1 _ _ t1
  obtain ⟨A1_1, c1_1, e1, l1_1, g1_1⟩ := k54_open K1
  obtain rfl : ca1 = #[.int .i64 x1.f0, .slice A1_1 x1.f1.length c1_1, .string x1.f2.f0, .string x1.f2.f1, .string x1.f2.f2] := by
    apply Array.ext'
    exact e1
  obtain ⟨k, h⟩ := (Pure.FnExactEqualSearch : PureS) x0 x1 o0 o1
  refine (PFnExactEqualSearch.laws_FnExactEqualSearch.calls k (x0.f0) _ _ (x0.f1) (x0.f2.f0) (x0.f2.f1) (x0.f2.f2) (x1.f0) _ _ (x1.f1) (x1.f2.f0) (x1.f2.f1) (x1.f2.f2) true W g0_1 l0_1 g1_1 l1_1 h).mono ?_
  rintro e W' ⟨he, bel0⟩
  have bel : Below W.heap.size W W' := bel0
  subst he
  exact ⟨_, rfl, _, _, _, [], _, [], hW', trodAll_mk1 (shut_bool Try.underlying4 _), (trodAll_cons_mk (Below.trod laidOut (by kernel_rfl) (of_decide_eq_true (by kernel_rfl)) k0_ bel lt0) (trodAll_cons_mk (Below.trod laidOut (by kernel_rfl) (of_decide_eq_true (by kernel_rfl)) k1_ bel lt1) trodAll_mk0)), rfl, bel.frame _, fun h => by cases h⟩
theorem over : Rows.fnExactEqualSearchRow.holds Try.pinned (OpenSpec.ofChange Rows.fnExactEqualSearchSpec) :=
  OpenClaim.holds_of_wide 8 Try.f8 rfl rfl rfl rfl rfl rfl rfl ⟨rfl, rfl, rfl, rfl, rfl⟩ rfl rfl rfl rfl rfl (by kernel_rfl) Try.func8 (by kernel_rfl)
    (of_decide_eq_true (by kernel_rfl)) (by unfold Func.isWrapper; first | (rw [if_pos (by decide +kernel)]; kernel_rfl) | (rw [if_neg (by decide +kernel)]; exact ⟨rfl, rfl⟩))
    (fun os started H enc _ => lifted os started H enc)
theorem proved : Rows.FnExactEqualSearchSaid := over
#print axioms proved
end Go.Proofs.Ytdepiibcopbjlaa.fnExactEqualSearch
namespace Go.Proofs.Ytdepiibcopbjlaa
/-- The row, under a short name, for the claim. -/
theorem fnExactEqualSearch_holds : Rows.FnExactEqualSearchSaid := fnExactEqualSearch.proved
end Go.Proofs.Ytdepiibcopbjlaa
