/- The arguments of FnExactComposeMorphisms, laid open, and its pure statement. -/
import Derived.Test.YtdepiibcopbjlaaPFnExactComposeMorphismsx6
import Derived.Test.YtdepiibcopbjlaaOpn
import Derived.WalkKit
import Derived.ProofKit
import Derived.KernelRfl
namespace Go.Proofs.Ytdepiibcopbjlaa.fnExactComposeMorphisms
open Go.ChangeShapes Go.WideShapes Go.ChangeAt Go.RowKit Go.Proofs.Ytdepiibcopbjlaa.PFnExactComposeMorphisms Go.Proofs.YtdepiibcopbjlaaW.PrintWords Go.Proofs.Ytdepiibcopbjlaa
set_option linter.unusedVariables false
set_option linter.unusedSimpArgs false
theorem cz9 : Try.prog.cellsOf 9 = Kd.sz Kd.string := by kernel_rfl
theorem cz25 : Try.prog.cellsOf 25 = Kd.sz k25 := by kernel_rfl
section
variable {H : Type} {enc : TypeId × Value → H} {W : World} {sp : Nat → Bool}
def Ok25 (a : S25) : Prop := ByteArray.size a.f0 ≤ maxLen ∧ ByteArray.size a.f1 ≤ maxLen ∧ ByteArray.size a.f2 ≤ maxLen
theorem open25 : ∀ (fuel : Nat) (cs : List Value) (x : DataW H × List MemPlace) (hx : DataW.trod enc Try.prog W 0 sp true fuel 25 cs = some x), ∃ a : S25, Kd.K k25 W a cs ∧ Ok25 a := by
  intro fuel cs x hx
  obtain ⟨hl, m, hm, hf⟩ := Opn.trod_struct Try.underlying25 hx
  rw [show Try.prog.cellsOf 25 = 3 from cz25] at hl
  obtain ⟨c0, c1, c2, rfl⟩ : ∃ c0 c1 c2, cs = [c0, c1, c2] := by
    rcases cs with _ | ⟨c0, _ | ⟨c1, _ | ⟨c2, _ | ⟨c3, cs⟩⟩⟩⟩
    all_goals first | exact ⟨_, _, _, rfl⟩ | (exfalso; simp at hl; done) | (exfalso; simp at hl; omega)
  obtain ⟨y0, h0⟩ : ∃ y, DataW.trod enc Try.prog W 0 sp true m 9 [c0] = some y := by
    obtain ⟨y_, h_⟩ := hf _ (List.mem_of_getElem? (i := 0) rfl)
    dsimp only at h_
    rw [show Try.prog.cellsOf 9 = 1 from cz9] at h_
    exact ⟨y_, h_⟩
  obtain ⟨x0, rfl, o0⟩ := Opn.trod_string Try.underlying9 h0
  obtain ⟨y1, h1⟩ : ∃ y, DataW.trod enc Try.prog W 0 sp true m 9 [c1] = some y := by
    obtain ⟨y_, h_⟩ := hf _ (List.mem_of_getElem? (i := 1) rfl)
    dsimp only at h_
    rw [show Try.prog.cellsOf 9 = 1 from cz9] at h_
    exact ⟨y_, h_⟩
  obtain ⟨x1, rfl, o1⟩ := Opn.trod_string Try.underlying9 h1
  obtain ⟨y2, h2⟩ : ∃ y, DataW.trod enc Try.prog W 0 sp true m 9 [c2] = some y := by
    obtain ⟨y_, h_⟩ := hf _ (List.mem_of_getElem? (i := 2) rfl)
    dsimp only at h_
    rw [show Try.prog.cellsOf 9 = 1 from cz9] at h_
    exact ⟨y_, h_⟩
  obtain ⟨x2, rfl, o2⟩ := Opn.trod_string Try.underlying9 h2
  exact ⟨⟨x0, x1, x2⟩, ⟨_, _, (show _ = [_] ++ _ from rfl), rfl, ⟨_, _, (show _ = [_] ++ _ from rfl), rfl, rfl⟩⟩, ⟨o0, o1, o2⟩⟩
end
/-- The pure statement. -/
def PureS : Prop := ∀ (a0 : S25) (a1 : S25), (Ok25 a0) → (Ok25 a1) → ∃ k, laws_FnExactComposeMorphisms.f k (a0.f0) (a0.f1) (a0.f2) (a1.f0) (a1.f1) (a1.f2) = some true
end Go.Proofs.Ytdepiibcopbjlaa.fnExactComposeMorphisms
