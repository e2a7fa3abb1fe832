/- The arguments of FnExactFitsState, laid open, and its pure statement. -/
import Derived.Test.YtdepiibcopbjlaaPFnExactFitsStatex9
import Derived.Test.YtdepiibcopbjlaaOpn
import Derived.WalkKit
import Derived.ProofKit
import Derived.KernelRfl
namespace Go.Proofs.Ytdepiibcopbjlaa.fnExactFitsState
open Go.ChangeShapes Go.WideShapes Go.ChangeAt Go.RowKit Go.Proofs.Ytdepiibcopbjlaa.PFnExactFitsState Go.Proofs.YtdepiibcopbjlaaW.PrintWords Go.Proofs.Ytdepiibcopbjlaa
set_option linter.unusedVariables false
set_option linter.unusedSimpArgs false
theorem cz3 : Try.prog.cellsOf 3 = Kd.sz (Kd.int .i64) := by kernel_rfl
theorem cz9 : Try.prog.cellsOf 9 = Kd.sz Kd.string := by kernel_rfl
theorem cz38 : Try.prog.cellsOf 38 = Kd.sz (Kd.slice 3 (Kd.int .i64)) := by kernel_rfl
theorem cz40 : Try.prog.cellsOf 40 = Kd.sz k40 := by kernel_rfl
theorem cz52 : Try.prog.cellsOf 52 = Kd.sz k52 := by kernel_rfl
theorem cz63 : Try.prog.cellsOf 63 = Kd.sz k63 := by kernel_rfl
theorem cz64 : Try.prog.cellsOf 64 = Kd.sz (Kd.slice 38 (Kd.slice 3 (Kd.int .i64))) := by kernel_rfl
theorem cz66 : Try.prog.cellsOf 66 = Kd.sz k66 := by kernel_rfl
theorem cz68 : Try.prog.cellsOf 68 = Kd.sz k68 := by kernel_rfl
section
variable {H : Type} {enc : TypeId × Value → H} {W : World} {sp : Nat → Bool}
theorem openT3 (fuel : Nat) (cs : List Value) (x : DataW H × List MemPlace) (hx : DataW.trod enc Try.prog W 0 sp true fuel 3 cs = some x) : ∃ a : Int, Kd.K (Kd.int .i64) W a cs ∧ ((Lit.int .i64 a).wf = true) := by
  obtain ⟨n, rfl, hw⟩ := Opn.trod_int1 Try.underlying3 hx
  exact ⟨n, rfl, hw⟩
theorem openT38 (fuel : Nat) (cs : List Value) (x : DataW H × List MemPlace) (hx : DataW.trod enc Try.prog W 0 sp true fuel 38 cs = some x) : ∃ a : (List Int), Kd.K (Kd.slice 3 (Kd.int .i64)) W a cs ∧ ((List.length a ≤ maxLen ∧ ∀ z ∈ a, (Lit.int .i64 z).wf = true)) := by
  obtain ⟨c, rfl⟩ := Opn.trod_slice1 Try.underlying38 hx
  obtain ⟨A_, c_, xs_, rfl, hl, hC, ho⟩ := Opn.trod_slice (k := (Kd.int .i64)) (Ok := fun a => (Lit.int .i64 a).wf = true) Try.underlying38 cz3 hx (fun m _ cs y hy => openT3 m cs y hy)
  exact ⟨xs_, ⟨A_, c_, rfl, hl, hC⟩, Kd.C_max hC, ho⟩
def Ok63 (a : S63) : Prop := ByteArray.size a.f0 ≤ maxLen ∧ ByteArray.size a.f1 ≤ maxLen
theorem open63 : ∀ (fuel : Nat) (cs : List Value) (x : DataW H × List MemPlace) (hx : DataW.trod enc Try.prog W 0 sp true fuel 63 cs = some x), ∃ a : S63, Kd.K k63 W a cs ∧ Ok63 a := by
  intro fuel cs x hx
  obtain ⟨hl, m, hm, hf⟩ := Opn.trod_struct Try.underlying63 hx
  rw [show Try.prog.cellsOf 63 = 2 from cz63] at hl
  obtain ⟨c0, c1, rfl⟩ : ∃ c0 c1, cs = [c0, c1] := by
    rcases cs with _ | ⟨c0, _ | ⟨c1, _ | ⟨c2, cs⟩⟩⟩
    all_goals first | exact ⟨_, _, rfl⟩ | (exfalso; simp at hl; done) | (exfalso; simp at hl; omega)
  obtain ⟨y0, h0⟩ : ∃ y, DataW.trod enc Try.prog W 0 sp true m 9 [c0] = some y := by
    obtain ⟨y_, h_⟩ := hf _ (List.mem_of_getElem? (i := 0) rfl)
    dsimp only at h_
    rw [show Try.prog.cellsOf 9 = 1 from cz9] at h_
    exact ⟨y_, h_⟩
  obtain ⟨x0, rfl, o0⟩ := Opn.trod_string Try.underlying9 h0
  obtain ⟨y1, h1⟩ : ∃ y, DataW.trod enc Try.prog W 0 sp true m 9 [c1] = some y := by
    obtain ⟨y_, h_⟩ := hf _ (List.mem_of_getElem? (i := 1) rfl)
    dsimp only at h_
    rw [show Try.prog.cellsOf 9 = 1 from cz9] at h_
    exact ⟨y_, h_⟩
  obtain ⟨x1, rfl, o1⟩ := Opn.trod_string Try.underlying9 h1
  exact ⟨⟨x0, x1⟩, ⟨_, _, (show _ = [_] ++ _ from rfl), rfl, rfl⟩, ⟨o0, o1⟩⟩
def Ok66 (a : S66) : Prop := (List.length a.f0 ≤ maxLen ∧ ∀ z ∈ a.f0, (List.length z ≤ maxLen ∧ ∀ zz ∈ z, (Lit.int .i64 zz).wf = true)) ∧ (List.length a.f1 ≤ maxLen ∧ ∀ z ∈ a.f1, (Lit.int .i64 z).wf = true) ∧ (List.length a.f2 ≤ maxLen ∧ ∀ z ∈ a.f2, (List.length z ≤ maxLen ∧ ∀ zz ∈ z, (Lit.int .i64 zz).wf = true))
theorem open66 : ∀ (fuel : Nat) (cs : List Value) (x : DataW H × List MemPlace) (hx : DataW.trod enc Try.prog W 0 sp true fuel 66 cs = some x), ∃ a : S66, Kd.K k66 W a cs ∧ Ok66 a := by
  intro fuel cs x hx
  obtain ⟨hl, m, hm, hf⟩ := Opn.trod_struct Try.underlying66 hx
  rw [show Try.prog.cellsOf 66 = 3 from cz66] at hl
  obtain ⟨c0, c1, c2, rfl⟩ : ∃ c0 c1 c2, cs = [c0, c1, c2] := by
    rcases cs with _ | ⟨c0, _ | ⟨c1, _ | ⟨c2, _ | ⟨c3, cs⟩⟩⟩⟩
    all_goals first | exact ⟨_, _, _, rfl⟩ | (exfalso; simp at hl; done) | (exfalso; simp at hl; omega)
  obtain ⟨y0, h0⟩ : ∃ y, DataW.trod enc Try.prog W 0 sp true m 64 [c0] = some y := by
    obtain ⟨y_, h_⟩ := hf _ (List.mem_of_getElem? (i := 0) rfl)
    dsimp only at h_
    rw [show Try.prog.cellsOf 64 = 1 from cz64] at h_
    exact ⟨y_, h_⟩
  obtain ⟨A0, n0, x0, rfl, l0, g0, o0⟩ := Opn.trod_slice (k := (Kd.slice 3 (Kd.int .i64))) (Ok := fun a => (List.length a ≤ maxLen ∧ ∀ z ∈ a, (Lit.int .i64 z).wf = true)) Try.underlying64 cz38 h0 (fun m _ cs y hy => openT38 m cs y hy)
  obtain ⟨y1, h1⟩ : ∃ y, DataW.trod enc Try.prog W 0 sp true m 38 [c1] = some y := by
    obtain ⟨y_, h_⟩ := hf _ (List.mem_of_getElem? (i := 1) rfl)
    dsimp only at h_
    rw [show Try.prog.cellsOf 38 = 1 from cz38] at h_
    exact ⟨y_, h_⟩
  obtain ⟨A1, n1, x1, rfl, l1, g1, o1⟩ := Opn.trod_slice (k := (Kd.int .i64)) (Ok := fun a => (Lit.int .i64 a).wf = true) Try.underlying38 cz3 h1 (fun m _ cs y hy => openT3 m cs y hy)
  obtain ⟨y2, h2⟩ : ∃ y, DataW.trod enc Try.prog W 0 sp true m 64 [c2] = some y := by
    obtain ⟨y_, h_⟩ := hf _ (List.mem_of_getElem? (i := 2) rfl)
    dsimp only at h_
    rw [show Try.prog.cellsOf 64 = 1 from cz64] at h_
    exact ⟨y_, h_⟩
  obtain ⟨A2, n2, x2, rfl, l2, g2, o2⟩ := Opn.trod_slice (k := (Kd.slice 3 (Kd.int .i64))) (Ok := fun a => (List.length a ≤ maxLen ∧ ∀ z ∈ a, (Lit.int .i64 z).wf = true)) Try.underlying64 cz38 h2 (fun m _ cs y hy => openT38 m cs y hy)
  exact ⟨⟨x0, x1, x2⟩, ⟨_, _, (show _ = [_] ++ _ from rfl), ⟨A0, n0, rfl, l0, g0⟩, ⟨_, _, (show _ = [_] ++ _ from rfl), ⟨A1, n1, rfl, l1, g1⟩, ⟨A2, n2, rfl, l2, g2⟩⟩⟩, ⟨⟨Kd.C_max g0, o0⟩, ⟨Kd.C_max g1, o1⟩, ⟨Kd.C_max g2, o2⟩⟩⟩
def Ok68 (a : S68) : Prop := Ok63 a.f0 ∧ Ok66 a.f1 ∧ (List.length a.f2 ≤ maxLen ∧ ∀ z ∈ a.f2, (List.length z ≤ maxLen ∧ ∀ zz ∈ z, (Lit.int .i64 zz).wf = true))
theorem open68 : ∀ (fuel : Nat) (cs : List Value) (x : DataW H × List MemPlace) (hx : DataW.trod enc Try.prog W 0 sp true fuel 68 cs = some x), ∃ a : S68, Kd.K k68 W a cs ∧ Ok68 a := by
  intro fuel cs x hx
  obtain ⟨hl, m, hm, hf⟩ := Opn.trod_struct Try.underlying68 hx
  rw [show Try.prog.cellsOf 68 = 6 from cz68] at hl
  obtain ⟨c0, c1, c2, c3, c4, c5, rfl⟩ : ∃ c0 c1 c2 c3 c4 c5, cs = [c0, c1, c2, c3, c4, c5] := by
    rcases cs with _ | ⟨c0, _ | ⟨c1, _ | ⟨c2, _ | ⟨c3, _ | ⟨c4, _ | ⟨c5, _ | ⟨c6, cs⟩⟩⟩⟩⟩⟩⟩
    all_goals first | exact ⟨_, _, _, _, _, _, rfl⟩ | (exfalso; simp at hl; done) | (exfalso; simp at hl; omega)
  obtain ⟨y0, h0⟩ : ∃ y, DataW.trod enc Try.prog W 0 sp true m 63 [c0, c1] = some y := by
    obtain ⟨y_, h_⟩ := hf _ (List.mem_of_getElem? (i := 0) rfl)
    dsimp only at h_
    rw [show Try.prog.cellsOf 63 = 2 from cz63] at h_
    exact ⟨y_, h_⟩
  obtain ⟨x0, K0, o0⟩ := open63 m _ _ h0
  obtain ⟨y1, h1⟩ : ∃ y, DataW.trod enc Try.prog W 0 sp true m 66 [c2, c3, c4] = some y := by
    obtain ⟨y_, h_⟩ := hf _ (List.mem_of_getElem? (i := 1) rfl)
    dsimp only at h_
    rw [show Try.prog.cellsOf 66 = 3 from cz66] at h_
    exact ⟨y_, h_⟩
  obtain ⟨x1, K1, o1⟩ := open66 m _ _ h1
  obtain ⟨y2, h2⟩ : ∃ y, DataW.trod enc Try.prog W 0 sp true m 64 [c5] = some y := by
    obtain ⟨y_, h_⟩ := hf _ (List.mem_of_getElem? (i := 2) rfl)
    dsimp only at h_
    rw [show Try.prog.cellsOf 64 = 1 from cz64] at h_
    exact ⟨y_, h_⟩
  obtain ⟨A2, n2, x2, rfl, l2, g2, o2⟩ := Opn.trod_slice (k := (Kd.slice 3 (Kd.int .i64))) (Ok := fun a => (List.length a ≤ maxLen ∧ ∀ z ∈ a, (Lit.int .i64 z).wf = true)) Try.underlying64 cz38 h2 (fun m _ cs y hy => openT38 m cs y hy)
  exact ⟨⟨x0, x1, x2⟩, ⟨_, _, (show _ = [_, _] ++ _ from rfl), K0, ⟨_, _, (show _ = [_, _, _] ++ _ from rfl), K1, ⟨A2, n2, rfl, l2, g2⟩⟩⟩, ⟨o0, o1, ⟨Kd.C_max g2, o2⟩⟩⟩
def Ok40 (a : S40) : Prop := ByteArray.size a.f0 ≤ maxLen ∧ ByteArray.size a.f1 ≤ maxLen ∧ (List.length a.f2 ≤ maxLen ∧ ∀ z ∈ a.f2, (Lit.int .i64 z).wf = true)
theorem open40 : ∀ (fuel : Nat) (cs : List Value) (x : DataW H × List MemPlace) (hx : DataW.trod enc Try.prog W 0 sp true fuel 40 cs = some x), ∃ a : S40, Kd.K k40 W a cs ∧ Ok40 a := by
  intro fuel cs x hx
  obtain ⟨hl, m, hm, hf⟩ := Opn.trod_struct Try.underlying40 hx
  rw [show Try.prog.cellsOf 40 = 3 from cz40] at hl
  obtain ⟨c0, c1, c2, rfl⟩ : ∃ c0 c1 c2, cs = [c0, c1, c2] := by
    rcases cs with _ | ⟨c0, _ | ⟨c1, _ | ⟨c2, _ | ⟨c3, cs⟩⟩⟩⟩
    all_goals first | exact ⟨_, _, _, rfl⟩ | (exfalso; simp at hl; done) | (exfalso; simp at hl; omega)
  obtain ⟨y0, h0⟩ : ∃ y, DataW.trod enc Try.prog W 0 sp true m 9 [c0] = some y := by
    obtain ⟨y_, h_⟩ := hf _ (List.mem_of_getElem? (i := 0) rfl)
    dsimp only at h_
    rw [show Try.prog.cellsOf 9 = 1 from cz9] at h_
    exact ⟨y_, h_⟩
  obtain ⟨x0, rfl, o0⟩ := Opn.trod_string Try.underlying9 h0
  obtain ⟨y1, h1⟩ : ∃ y, DataW.trod enc Try.prog W 0 sp true m 9 [c1] = some y := by
    obtain ⟨y_, h_⟩ := hf _ (List.mem_of_getElem? (i := 1) rfl)
    dsimp only at h_
    rw [show Try.prog.cellsOf 9 = 1 from cz9] at h_
    exact ⟨y_, h_⟩
  obtain ⟨x1, rfl, o1⟩ := Opn.trod_string Try.underlying9 h1
  obtain ⟨y2, h2⟩ : ∃ y, DataW.trod enc Try.prog W 0 sp true m 38 [c2] = some y := by
    obtain ⟨y_, h_⟩ := hf _ (List.mem_of_getElem? (i := 2) rfl)
    dsimp only at h_
    rw [show Try.prog.cellsOf 38 = 1 from cz38] at h_
    exact ⟨y_, h_⟩
  obtain ⟨A2, n2, x2, rfl, l2, g2, o2⟩ := Opn.trod_slice (k := (Kd.int .i64)) (Ok := fun a => (Lit.int .i64 a).wf = true) Try.underlying38 cz3 h2 (fun m _ cs y hy => openT3 m cs y hy)
  exact ⟨⟨x0, x1, x2⟩, ⟨_, _, (show _ = [_] ++ _ from rfl), rfl, ⟨_, _, (show _ = [_] ++ _ from rfl), rfl, ⟨A2, n2, rfl, l2, g2⟩⟩⟩, ⟨o0, o1, ⟨Kd.C_max g2, o2⟩⟩⟩
def Ok52 (a : S52) : Prop := ByteArray.size a.f0 ≤ maxLen ∧ ByteArray.size a.f1 ≤ maxLen ∧ ByteArray.size a.f2 ≤ maxLen
theorem open52 : ∀ (fuel : Nat) (cs : List Value) (x : DataW H × List MemPlace) (hx : DataW.trod enc Try.prog W 0 sp true fuel 52 cs = some x), ∃ a : S52, Kd.K k52 W a cs ∧ Ok52 a := by
  intro fuel cs x hx
  obtain ⟨hl, m, hm, hf⟩ := Opn.trod_struct Try.underlying52 hx
  rw [show Try.prog.cellsOf 52 = 3 from cz52] at hl
  obtain ⟨c0, c1, c2, rfl⟩ : ∃ c0 c1 c2, cs = [c0, c1, c2] := by
    rcases cs with _ | ⟨c0, _ | ⟨c1, _ | ⟨c2, _ | ⟨c3, cs⟩⟩⟩⟩
    all_goals first | exact ⟨_, _, _, rfl⟩ | (exfalso; simp at hl; done) | (exfalso; simp at hl; omega)
  obtain ⟨y0, h0⟩ : ∃ y, DataW.trod enc Try.prog W 0 sp true m 9 [c0] = some y := by
    obtain ⟨y_, h_⟩ := hf _ (List.mem_of_getElem? (i := 0) rfl)
    dsimp only at h_
    rw [show Try.prog.cellsOf 9 = 1 from cz9] at h_
    exact ⟨y_, h_⟩
  obtain ⟨x0, rfl, o0⟩ := Opn.trod_string Try.underlying9 h0
  obtain ⟨y1, h1⟩ : ∃ y, DataW.trod enc Try.prog W 0 sp true m 9 [c1] = some y := by
    obtain ⟨y_, h_⟩ := hf _ (List.mem_of_getElem? (i := 1) rfl)
    dsimp only at h_
    rw [show Try.prog.cellsOf 9 = 1 from cz9] at h_
    exact ⟨y_, h_⟩
  obtain ⟨x1, rfl, o1⟩ := Opn.trod_string Try.underlying9 h1
  obtain ⟨y2, h2⟩ : ∃ y, DataW.trod enc Try.prog W 0 sp true m 9 [c2] = some y := by
    obtain ⟨y_, h_⟩ := hf _ (List.mem_of_getElem? (i := 2) rfl)
    dsimp only at h_
    rw [show Try.prog.cellsOf 9 = 1 from cz9] at h_
    exact ⟨y_, h_⟩
  obtain ⟨x2, rfl, o2⟩ := Opn.trod_string Try.underlying9 h2
  exact ⟨⟨x0, x1, x2⟩, ⟨_, _, (show _ = [_] ++ _ from rfl), rfl, ⟨_, _, (show _ = [_] ++ _ from rfl), rfl, rfl⟩⟩, ⟨o0, o1, o2⟩⟩
end
/-- The pure statement. -/
def PureS : Prop := ∀ (a0 : S68) (a1 : S40) (a2 : S52), (Ok68 a0) → (Ok40 a1) → (Ok52 a2) → ∃ k, laws_FnExactFitsState.f k (a0.f0.f0) (a0.f0.f1) (a0.f1.f0) (a0.f1.f1) (a0.f1.f2) (a0.f2) (a1.f0) (a1.f1) (a1.f2) (a2.f0) (a2.f1) (a2.f2) = some true
end Go.Proofs.Ytdepiibcopbjlaa.fnExactFitsState
