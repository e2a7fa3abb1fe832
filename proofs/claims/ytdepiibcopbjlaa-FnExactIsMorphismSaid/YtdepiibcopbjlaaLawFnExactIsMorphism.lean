/- The row of FnExactIsMorphism: an argument that reads as data is laid open, the walk of the law and the pure statement give 'true', and the argument reads as before. Conditions: those of the given statement alone. -/
import Derived.Test.YtdepiibcopbjlaaRows
import Derived.Test.YtdepiibcopbjlaaPFnExactIsMorphismx1
import Derived.Test.YtdepiibcopbjlaaPureFnExactIsMorphism
import Derived.Test.YtdepiibcopbjlaaOpn
import Derived.WalkKit
import Derived.ProofKit
import Derived.OpenShut
import Derived.ShutString
import Derived.ChangeOld
import Derived.Below
import Derived.SizedLaws
import Derived.Carry
namespace Go.Proofs.Ytdepiibcopbjlaa.fnExactIsMorphism
open Go.ChangeShapes Go.WideShapes Go.ChangeAt Go.RowKit Go.Proofs.Ytdepiibcopbjlaa.PFnExactIsMorphism Go.Proofs.YtdepiibcopbjlaaW.PrintWords Go.Proofs.Ytdepiibcopbjlaa.Pure Go.Proofs.Ytdepiibcopbjlaa
set_option linter.unusedVariables false
set_option linter.unusedSimpArgs false
theorem own : ownKnob Try.prog.godebug = none := by kernel_rfl
theorem laidOut : laidOutB Try.prog = true := by kernel_rfl
theorem cz9 : Try.prog.cellsOf 9 = Kd.sz Kd.string := by kernel_rfl
theorem cz25 : Try.prog.cellsOf 25 = Kd.sz k25 := by kernel_rfl
section
variable {H : Type} {enc : TypeId × Value → H} {W : World} {sp : Nat → Bool}
def Ok25 (a : S25) : Prop := ByteArray.size a.f0 ≤ maxLen ∧ ByteArray.size a.f1 ≤ maxLen ∧ ByteArray.size a.f2 ≤ maxLen
theorem open25 : ∀ (fuel : Nat) (cs : List Value) (x : DataW H × List MemPlace) (hx : DataW.trod enc Try.prog W 0 sp true fuel 25 cs = some x), ∃ a : S25, Kd.K k25 W a cs ∧ Ok25 a := by
  intro fuel cs x hx
  obtain ⟨hl, m, hm, hf⟩ := Opn.trod_struct Try.underlying25 hx
  rw [show Try.prog.cellsOf 25 = 3 from cz25] at hl
  obtain ⟨c0, c1, c2, rfl⟩ : ∃ c0 c1 c2, cs = [c0, c1, c2] := by
    rcases cs with _ | ⟨c0, _ | ⟨c1, _ | ⟨c2, _ | ⟨c3, cs⟩⟩⟩⟩
    all_goals first | exact ⟨_, _, _, rfl⟩ | (exfalso; simp at hl; done) | (exfalso; simp at hl; omega)
  obtain ⟨y0, h0⟩ : ∃ y, DataW.trod enc Try.prog W 0 sp true m 9 [c0] = some y := by
    obtain ⟨y_, h_⟩ := hf _ (List.mem_of_getElem? (i := 0) rfl)
    dsimp only at h_
    rw [show Try.prog.cellsOf 9 = 1 from cz9] at h_
    exact ⟨y_, h_⟩
  obtain ⟨x0, rfl, o0⟩ := Opn.trod_string Try.underlying9 h0
  obtain ⟨y1, h1⟩ : ∃ y, DataW.trod enc Try.prog W 0 sp true m 9 [c1] = some y := by
    obtain ⟨y_, h_⟩ := hf _ (List.mem_of_getElem? (i := 1) rfl)
    dsimp only at h_
    rw [show Try.prog.cellsOf 9 = 1 from cz9] at h_
    exact ⟨y_, h_⟩
  obtain ⟨x1, rfl, o1⟩ := Opn.trod_string Try.underlying9 h1
  obtain ⟨y2, h2⟩ : ∃ y, DataW.trod enc Try.prog W 0 sp true m 9 [c2] = some y := by
    obtain ⟨y_, h_⟩ := hf _ (List.mem_of_getElem? (i := 2) rfl)
    dsimp only at h_
    rw [show Try.prog.cellsOf 9 = 1 from cz9] at h_
    exact ⟨y_, h_⟩
  obtain ⟨x2, rfl, o2⟩ := Opn.trod_string Try.underlying9 h2
  exact ⟨⟨x0, x1, x2⟩, ⟨_, _, (show _ = [_] ++ _ from rfl), rfl, ⟨_, _, (show _ = [_] ++ _ from rfl), rfl, rfl⟩⟩, ⟨o0, o1, o2⟩⟩
end
/-- The pure statement. -/
def PureS : Prop := ∀ (a0 : S25), (Ok25 a0) → ∃ k, laws_FnExactIsMorphism.f k (a0.f0) (a0.f1) (a0.f2) = some true
theorem pureS : PureS := by
  intro a0 o0
  exact Pure.FnExactIsMorphism a0 (o0.1) (o0.2.1) (o0.2.2)
set_option maxRecDepth 100000 in
theorem lifted (os : Os) (started : os.Started) (H : Type) (enc : TypeId × Value → H) :
    ReturnsInHanded {} Try.checked os 4 .any (Rows.fnExactIsMorphismSpec.pre6 enc Try.prog Try.f4 Rows.fnExactIsMorphismRow.domain false) (Rows.fnExactIsMorphismSpec.post enc Try.prog Try.f4 false true false false) := by
  refine returnsInHanded_of_change_sized (C := Try.checked) own started (by kernel_rfl) Try.func4
    (ChangeSpec.witness6 (enc := enc) (C := Try.checked) false ⟨#[], #[.agg #[.string ByteArray.empty, .string ByteArray.empty, .string ByteArray.empty]], []⟩ 8 (by kernel_rfl) (by kernel_rfl) (by kernel_rfl) (by kernel_rfl)) ?_
  intro W base args ds gs before hval0 hW hcnd hsz0 _
  have hval : ∀ (j : Nat) t v, Try.f4.params[j]? = some t → args[j]? = some v → Value.okWide Try.prog W .any base t v := hval0
  have hW' := hW
  obtain ⟨p, q, hA0, hV, rfl, hfz, hnd⟩ := hW
  have hA : DataW.TrodAll enc Try.prog W 0 (fun _ => true) true Try.f4.params.toList args.toList ds p := hA0
  rw [Try.params4] at hA hval
  obtain ⟨v0, vs0, d0, ds0, p0, q0, hargs, rfl, rfl, h0, r0⟩ := trodAll_cons hA
  obtain ⟨rfl, rfl, rfl⟩ := trodAll_nil r0
  obtain rfl : args = #[v0] := by cases args; simp_all
  obtain ⟨rfl, rfl⟩ := trodVars_none hV
  have lt0 : ∀ x ∈ p0, x.block < W.heap.size := by obtain ⟨m, hm⟩ := h0; exact DataW.trod_lt m _ _ _ hm
  have k0_ := h0
  obtain ⟨fuel0, t0⟩ := h0
  obtain ⟨ca0, rfl⟩ : ∃ ca, v0 = .agg ca := by
    have z := (hval 0 25 v0 rfl rfl)
    unfold Value.okWide at z
    rw [Try.underlying25] at z
    obtain ⟨ca, e_, _⟩ := z
    exact ⟨ca, e_⟩
  obtain ⟨x0, K0, o0⟩ := open25 fuel0 _ _ t0
  have e0 := k25_open K0
  obtain rfl : ca0 = #[.string x0.f0, .string x0.f1, .string x0.f2] := by
    apply Array.ext'
    exact e0
  obtain ⟨k, h⟩ := pureS x0 o0
  refine (PFnExactIsMorphism.laws_FnExactIsMorphism.calls k (x0.f0) (x0.f1) (x0.f2) true W  h).mono ?_
  rintro e W' ⟨he, bel0⟩
  have bel : Below W.heap.size W W' := bel0
  subst he
  exact ⟨_, rfl, _, _, _, [], _, [], hW', trodAll_mk1 (shut_bool Try.underlying4 _), (trodAll_cons_mk (Below.trod laidOut (by kernel_rfl) (of_decide_eq_true (by kernel_rfl)) k0_ bel lt0) trodAll_mk0), rfl, bel.frame _, fun h => by cases h⟩
theorem over : Rows.fnExactIsMorphismRow.holds Try.pinned (OpenSpec.ofChange Rows.fnExactIsMorphismSpec) :=
  OpenClaim.holds_of_wide 4 Try.f4 rfl rfl rfl rfl rfl rfl rfl ⟨rfl, rfl, rfl, rfl, rfl⟩ rfl rfl rfl rfl rfl (by kernel_rfl) Try.func4 (by kernel_rfl)
    (of_decide_eq_true (by kernel_rfl)) (by unfold Func.isWrapper; first | (rw [if_pos (by decide +kernel)]; kernel_rfl) | (rw [if_neg (by decide +kernel)]; exact ⟨rfl, rfl⟩))
    (fun os started H enc _ => lifted os started H enc)
theorem proved : Rows.FnExactIsMorphismSaid := over
#print axioms proved
end Go.Proofs.Ytdepiibcopbjlaa.fnExactIsMorphism
namespace Go.Proofs.Ytdepiibcopbjlaa
/-- The row, under a short name, for the claim. -/
theorem fnExactIsMorphism_holds : Rows.FnExactIsMorphismSaid := fnExactIsMorphism.proved
end Go.Proofs.Ytdepiibcopbjlaa
