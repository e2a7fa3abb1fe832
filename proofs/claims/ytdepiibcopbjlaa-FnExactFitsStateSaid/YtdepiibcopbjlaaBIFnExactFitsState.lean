/- Lists of whole numbers, and lists of these: compared, copied, counted by the laws' helpers. No statement of the seat is proved here. -/
import Derived.Test.YtdepiibcopbjlaaB2FnExactFitsState
import Derived.Test.YtdepiibcopbjlaaPFnExactFitsStatex
namespace Go.Proofs.Ytdepiibcopbjlaa.BFnExactFitsState
open Go.RowKit Go.Proofs.Ytdepiibcopbjlaa.PFnExactFitsState Go.Proofs.YtdepiibcopbjlaaW.PrintWords Go.Proofs.YtdepiibcopbjlaaW.PrintLast
set_option linter.unusedVariables false

def eqI (a b : List Int) : Bool := decide (a.length = b.length) && allN (fun i => decide (rd a i = rd b i)) 0 a.length
theorem eqI_self (a : List Int) : eqI a a = true := by simp [eqI, allN_true]
theorem eqInts (a b : List Int) (ha : a.length ≤ maxLen) : Ev (fun k => laws_eqIntS.f k a b) (eqI a b) := by
  rw [maxLen_eq] at ha
  unfold laws_eqIntS.f
  refine Ev.ite (fun h => ?_) (fun h => Ev.val (by simp [eqI]; omega))
  have hl : a.length = b.length := by omega
  simp only [eqI, hl, decide_true, Bool.true_and]
  refine Ev.all (g := fun k i => laws_eqIntS.l0 k a b (i : Int)) (n := b.length) ?_ ?_ b.length 0 (by omega)
  · refine Ev.up ?_
    simp only [laws_eqIntS.l0]
    exact Ev.ite_f (by omega) (Ev.val rfl)
  · intro i hi r h1 h2
    refine Ev.up ?_
    simp only [laws_eqIntS.l0]
    refine Ev.ite_t (by omega) (Ev.ite_t (by omega) (Ev.ite_t (by omega) ?_))
    refine Ev.ite (fun e => ?_) (fun e => Ev.val (h2 (by simp [e])).symm)
    rw [cast_succ hi (by omega)]
    exact h1 (by simp [e])
theorem toInts (l : List Int) (hl : l.length ≤ 1048576) : Ev (fun k => laws_toIntS.f k l) l := by
  unfold laws_toIntS.f
  refine Ev.ite_t (by omega) (Ev.ite_t (by omega) ?_)
  refine Ev.fill (g := fun k i out => laws_toIntS.l0 k l out (i : Int)) (n := l.length) (F := fun i => rd l i) l rfl ?_ ?_ ?_ l.length 0 _ (by omega) (by simp) (fun j hj => by omega)
  · intro j hj
    simp [rd, hj]
  · refine Ev.up ?_
    simp only [laws_toIntS.l0]
    exact Ev.ite_f (by omega) (Ev.val rfl)
  · intro i out hi ho h
    refine Ev.up ?_
    simp only [laws_toIntS.l0]
    refine Ev.ite_t (by omega) (Ev.ite_t (by omega) (Ev.ite_t (by omega) ?_))
    rw [cast_succ hi (by omega)]
    exact h
theorem szInts {l : List Int} {a r : Int} (h : laws_szIntS.f l a = some r) (hr : 0 ≤ r) (ha : 0 ≤ a) (ha' : a ≤ 1048576) (hl : l.length ≤ maxLen) : r ≤ a ∧ (l.length : Int) ≤ a := by
  rw [maxLen_eq] at hl
  unfold laws_szIntS.f at h
  rw [wrap_id (by omega) (by omega)] at h
  split at h <;> injection h with h <;> omega
theorem szInts_some (l : List Int) (a : Int) : ∃ r, laws_szIntS.f l a = some r := by
  unfold laws_szIntS.f
  split <;> exact ⟨_, rfl⟩
theorem szI (l : List Int) (a : Int) (ha : 0 ≤ a) (ha' : a ≤ 1048576) (hl : l.length ≤ maxLen) : ∃ r, laws_szIntS.f l a = some r ∧ (0 ≤ r → r ≤ a ∧ l.length ≤ 1048576) := by
  obtain ⟨r, h⟩ := szInts_some l a
  exact ⟨r, h, fun h0 => by have := szInts h h0 ha ha' hl; omega⟩

end Go.Proofs.Ytdepiibcopbjlaa.BFnExactFitsState
