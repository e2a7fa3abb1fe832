/- The arguments of FnExactEqualSearch, laid open, and its pure statement. -/
import Derived.Test.YtdepiibcopbjlaaPFnExactEqualSearchx6
import Derived.Test.YtdepiibcopbjlaaOpn
import Derived.WalkKit
import Derived.ProofKit
import Derived.KernelRfl
namespace Go.Proofs.Ytdepiibcopbjlaa.fnExactEqualSearch
open Go.ChangeShapes Go.WideShapes Go.ChangeAt Go.RowKit Go.Proofs.Ytdepiibcopbjlaa.PFnExactEqualSearch Go.Proofs.YtdepiibcopbjlaaW.PrintWords Go.Proofs.Ytdepiibcopbjlaa
set_option linter.unusedVariables false
set_option linter.unusedSimpArgs false
theorem cz3 : Try.prog.cellsOf 3 = Kd.sz (Kd.int .i64) := by kernel_rfl
theorem cz9 : Try.prog.cellsOf 9 = Kd.sz Kd.string := by kernel_rfl
theorem cz37 : Try.prog.cellsOf 37 = Kd.sz (Kd.slice 40 k40) := by kernel_rfl
theorem cz38 : Try.prog.cellsOf 38 = Kd.sz (Kd.slice 3 (Kd.int .i64)) := by kernel_rfl
theorem cz40 : Try.prog.cellsOf 40 = Kd.sz k40 := by kernel_rfl
theorem cz52 : Try.prog.cellsOf 52 = Kd.sz k52 := by kernel_rfl
theorem cz54 : Try.prog.cellsOf 54 = Kd.sz k54 := by kernel_rfl
section
variable {H : Type} {enc : TypeId × Value → H} {W : World} {sp : Nat → Bool}
theorem openT3 (fuel : Nat) (cs : List Value) (x : DataW H × List MemPlace) (hx : DataW.trod enc Try.prog W 0 sp true fuel 3 cs = some x) : ∃ a : Int, Kd.K (Kd.int .i64) W a cs ∧ ((Lit.int .i64 a).wf = true) := by
  obtain ⟨n, rfl, hw⟩ := Opn.trod_int1 Try.underlying3 hx
  exact ⟨n, rfl, hw⟩
def Ok40 (a : S40) : Prop := ByteArray.size a.f0 ≤ maxLen ∧ ByteArray.size a.f1 ≤ maxLen ∧ (List.length a.f2 ≤ maxLen ∧ ∀ z ∈ a.f2, (Lit.int .i64 z).wf = true)
theorem open40 : ∀ (fuel : Nat) (cs : List Value) (x : DataW H × List MemPlace) (hx : DataW.trod enc Try.prog W 0 sp true fuel 40 cs = some x), ∃ a : S40, Kd.K k40 W a cs ∧ Ok40 a := by
  intro fuel cs x hx
  obtain ⟨hl, m, hm, hf⟩ := Opn.trod_struct Try.underlying40 hx
  rw [show Try.prog.cellsOf 40 = 3 from cz40] at hl
  obtain ⟨c0, c1, c2, rfl⟩ : ∃ c0 c1 c2, cs = [c0, c1, c2] := by
    rcases cs with _ | ⟨c0, _ | ⟨c1, _ | ⟨c2, _ | ⟨c3, cs⟩⟩⟩⟩
    all_goals first | exact ⟨_, _, _, rfl⟩ | (exfalso; simp at hl; done) | (exfalso; simp at hl; omega)
  obtain ⟨y0, h0⟩ : ∃ y, DataW.trod enc Try.prog W 0 sp true m 9 [c0] = some y := by
    obtain ⟨y_, h_⟩ := hf _ (List.mem_of_getElem? (i := 0) rfl)
    dsimp only at h_
    rw [show Try.prog.cellsOf 9 = 1 from cz9] at h_
    exact ⟨y_, h_⟩
  obtain ⟨x0, rfl, o0⟩ := Opn.trod_string Try.underlying9 h0
  obtain ⟨y1, h1⟩ : ∃ y, DataW.trod enc Try.prog W 0 sp true m 9 [c1] = some y := by
    obtain ⟨y_, h_⟩ := hf _ (List.mem_of_getElem? (i := 1) rfl)
    dsimp only at h_
    rw [show Try.prog.cellsOf 9 = 1 from cz9] at h_
    exact ⟨y_, h_⟩
  obtain ⟨x1, rfl, o1⟩ := Opn.trod_string Try.underlying9 h1
  obtain ⟨y2, h2⟩ : ∃ y, DataW.trod enc Try.prog W 0 sp true m 38 [c2] = some y := by
    obtain ⟨y_, h_⟩ := hf _ (List.mem_of_getElem? (i := 2) rfl)
    dsimp only at h_
    rw [show Try.prog.cellsOf 38 = 1 from cz38] at h_
    exact ⟨y_, h_⟩
  obtain ⟨A2, n2, x2, rfl, l2, g2, o2⟩ := Opn.trod_slice (k := (Kd.int .i64)) (Ok := fun a => (Lit.int .i64 a).wf = true) Try.underlying38 cz3 h2 (fun m _ cs y hy => openT3 m cs y hy)
  exact ⟨⟨x0, x1, x2⟩, ⟨_, _, (show _ = [_] ++ _ from rfl), rfl, ⟨_, _, (show _ = [_] ++ _ from rfl), rfl, ⟨A2, n2, rfl, l2, g2⟩⟩⟩, ⟨o0, o1, ⟨Kd.C_max g2, o2⟩⟩⟩
def Ok52 (a : S52) : Prop := ByteArray.size a.f0 ≤ maxLen ∧ ByteArray.size a.f1 ≤ maxLen ∧ ByteArray.size a.f2 ≤ maxLen
theorem open52 : ∀ (fuel : Nat) (cs : List Value) (x : DataW H × List MemPlace) (hx : DataW.trod enc Try.prog W 0 sp true fuel 52 cs = some x), ∃ a : S52, Kd.K k52 W a cs ∧ Ok52 a := by
  intro fuel cs x hx
  obtain ⟨hl, m, hm, hf⟩ := Opn.trod_struct Try.underlying52 hx
  rw [show Try.prog.cellsOf 52 = 3 from cz52] at hl
  obtain ⟨c0, c1, c2, rfl⟩ : ∃ c0 c1 c2, cs = [c0, c1, c2] := by
    rcases cs with _ | ⟨c0, _ | ⟨c1, _ | ⟨c2, _ | ⟨c3, cs⟩⟩⟩⟩
    all_goals first | exact ⟨_, _, _, rfl⟩ | (exfalso; simp at hl; done) | (exfalso; simp at hl; omega)
  obtain ⟨y0, h0⟩ : ∃ y, DataW.trod enc Try.prog W 0 sp true m 9 [c0] = some y := by
    obtain ⟨y_, h_⟩ := hf _ (List.mem_of_getElem? (i := 0) rfl)
    dsimp only at h_
    rw [show Try.prog.cellsOf 9 = 1 from cz9] at h_
    exact ⟨y_, h_⟩
  obtain ⟨x0, rfl, o0⟩ := Opn.trod_string Try.underlying9 h0
  obtain ⟨y1, h1⟩ : ∃ y, DataW.trod enc Try.prog W 0 sp true m 9 [c1] = some y := by
    obtain ⟨y_, h_⟩ := hf _ (List.mem_of_getElem? (i := 1) rfl)
    dsimp only at h_
    rw [show Try.prog.cellsOf 9 = 1 from cz9] at h_
    exact ⟨y_, h_⟩
  obtain ⟨x1, rfl, o1⟩ := Opn.trod_string Try.underlying9 h1
  obtain ⟨y2, h2⟩ : ∃ y, DataW.trod enc Try.prog W 0 sp true m 9 [c2] = some y := by
    obtain ⟨y_, h_⟩ := hf _ (List.mem_of_getElem? (i := 2) rfl)
    dsimp only at h_
    rw [show Try.prog.cellsOf 9 = 1 from cz9] at h_
    exact ⟨y_, h_⟩
  obtain ⟨x2, rfl, o2⟩ := Opn.trod_string Try.underlying9 h2
  exact ⟨⟨x0, x1, x2⟩, ⟨_, _, (show _ = [_] ++ _ from rfl), rfl, ⟨_, _, (show _ = [_] ++ _ from rfl), rfl, rfl⟩⟩, ⟨o0, o1, o2⟩⟩
def Ok54 (a : S54) : Prop := (Lit.int .i64 a.f0).wf = true ∧ (List.length a.f1 ≤ maxLen ∧ ∀ z ∈ a.f1, Ok40 z) ∧ Ok52 a.f2
theorem open54 : ∀ (fuel : Nat) (cs : List Value) (x : DataW H × List MemPlace) (hx : DataW.trod enc Try.prog W 0 sp true fuel 54 cs = some x), ∃ a : S54, Kd.K k54 W a cs ∧ Ok54 a := by
  intro fuel cs x hx
  obtain ⟨hl, m, hm, hf⟩ := Opn.trod_struct Try.underlying54 hx
  rw [show Try.prog.cellsOf 54 = 5 from cz54] at hl
  obtain ⟨c0, c1, c2, c3, c4, rfl⟩ : ∃ c0 c1 c2 c3 c4, cs = [c0, c1, c2, c3, c4] := by
    rcases cs with _ | ⟨c0, _ | ⟨c1, _ | ⟨c2, _ | ⟨c3, _ | ⟨c4, _ | ⟨c5, cs⟩⟩⟩⟩⟩⟩
    all_goals first | exact ⟨_, _, _, _, _, rfl⟩ | (exfalso; simp at hl; done) | (exfalso; simp at hl; omega)
  obtain ⟨y0, h0⟩ : ∃ y, DataW.trod enc Try.prog W 0 sp true m 3 [c0] = some y := by
    obtain ⟨y_, h_⟩ := hf _ (List.mem_of_getElem? (i := 0) rfl)
    dsimp only at h_
    rw [show Try.prog.cellsOf 3 = 1 from cz3] at h_
    exact ⟨y_, h_⟩
  obtain ⟨x0, rfl, o0⟩ := Opn.trod_int Try.underlying3 h0
  obtain ⟨y1, h1⟩ : ∃ y, DataW.trod enc Try.prog W 0 sp true m 37 [c1] = some y := by
    obtain ⟨y_, h_⟩ := hf _ (List.mem_of_getElem? (i := 1) rfl)
    dsimp only at h_
    rw [show Try.prog.cellsOf 37 = 1 from cz37] at h_
    exact ⟨y_, h_⟩
  obtain ⟨A1, n1, x1, rfl, l1, g1, o1⟩ := Opn.trod_slice (k := k40) (Ok := fun a => Ok40 a) Try.underlying37 cz40 h1 (fun m _ cs y hy => open40 m cs y hy)
  obtain ⟨y2, h2⟩ : ∃ y, DataW.trod enc Try.prog W 0 sp true m 52 [c2, c3, c4] = some y := by
    obtain ⟨y_, h_⟩ := hf _ (List.mem_of_getElem? (i := 2) rfl)
    dsimp only at h_
    rw [show Try.prog.cellsOf 52 = 3 from cz52] at h_
    exact ⟨y_, h_⟩
  obtain ⟨x2, K2, o2⟩ := open52 m _ _ h2
  exact ⟨⟨x0, x1, x2⟩, ⟨_, _, (show _ = [_] ++ _ from rfl), rfl, ⟨_, _, (show _ = [_] ++ _ from rfl), ⟨A1, n1, rfl, l1, g1⟩, K2⟩⟩, ⟨o0, ⟨Kd.C_max g1, o1⟩, o2⟩⟩
end
/-- The pure statement. -/
def PureS : Prop := ∀ (a0 : S54) (a1 : S54), (Ok54 a0) → (Ok54 a1) → ∃ k, laws_FnExactEqualSearch.f k (a0.f0) (a0.f1) (a0.f2.f0) (a0.f2.f1) (a0.f2.f2) (a1.f0) (a1.f1) (a1.f2.f0) (a1.f2.f1) (a1.f2.f2) = some true
end Go.Proofs.Ytdepiibcopbjlaa.fnExactEqualSearch
