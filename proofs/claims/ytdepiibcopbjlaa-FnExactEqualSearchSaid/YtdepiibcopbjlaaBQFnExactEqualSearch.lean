/- Lists of states compared by the reference and by the program. -/
import Derived.Test.YtdepiibcopbjlaaBSFnExactEqualSearch
namespace Go.Proofs.Ytdepiibcopbjlaa.BFnExactEqualSearch
open Go.RowKit Go.Proofs.Ytdepiibcopbjlaa.PFnExactEqualSearch Go.Proofs.YtdepiibcopbjlaaW.PrintWords Go.Proofs.YtdepiibcopbjlaaW.PrintLast
set_option linter.unusedVariables false

def eqL (a b : List IS) : Bool := decide (a.length = b.length) && allN (fun i => eqS (a.getD i z46) (b.getD i z46)) 0 a.length
theorem eqL_self (a : List IS) : eqL a a = true := by simp [eqL, allN_true, eqS_self]
theorem specSts (a b : List IS) (ha : a.length ≤ 1048576) (hs : ∀ s ∈ a, s.f2.length ≤ 1048576) : Ev (fun k => spec_l16States.f k a b) (eqL a b) := by
  unfold spec_l16States.f
  refine Ev.ite (fun h => ?_) (fun h => Ev.val (by have : ¬ a.length = b.length := by omega
                                                   simp [eqL, this]))
  have hl : a.length = b.length := by omega
  simp only [eqL, hl, decide_true, Bool.true_and]
  refine Ev.all (g := fun k i => spec_l16States.l0 k a b (i : Int)) (n := b.length) ?_ ?_ b.length 0 (by omega)
  · refine Ev.up ?_
    simp only [spec_l16States.l0]
    exact Ev.ite_f (by omega) (Ev.val rfl)
  · intro i hi r h1 h2
    refine Ev.up ?_
    simp only [spec_l16States.l0]
    refine Ev.ite_t (by omega) (Ev.ite_t (by omega) (Ev.ite_t (by omega) ?_))
    have hi' : i < a.length := by omega
    have hm : (a[i]).f2.length ≤ maxLen := Nat.le_trans (hs _ (List.getElem_mem _)) (by decide)
    rw [rdIS hi', rdIS hi]
    have ea : a.getD i z46 = a[i] := by simp [hi']
    have eb : b.getD i z46 = b[i] := by simp [hi]
    rw [ea, eb] at h1 h2
    refine Ev.bind (specES _ _ hm) ?_
    refine Ev.ite (fun e => ?_) (fun e => Ev.val (h2 (by simpa using e)).symm)
    rw [cast_succ hi (by omega)]
    exact h1 e
theorem implSts (a b : List IS) (ha : a.length ≤ 1048576) (hs : ∀ s ∈ a, s.f2.length ≤ 1048576) : Ev (fun k => impl_State_v0.f k a b) (eqL a b) := by
  unfold impl_State_v0.f
  refine Ev.ite (fun h => ?_) (fun h => Ev.val (by have : ¬ a.length = b.length := by omega
                                                   simp [eqL, this]))
  have hl : a.length = b.length := by omega
  simp only [eqL, hl, decide_true, Bool.true_and]
  refine Ev.all (g := fun k i => impl_State_v0.l0 k b a (b.length : Int) (i : Int)) (n := b.length) ?_ ?_ b.length 0 (by omega)
  · refine Ev.up ?_
    simp only [impl_State_v0.l0]
    exact Ev.ite_f (by omega) (Ev.val rfl)
  · intro i hi r h1 h2
    refine Ev.up ?_
    simp only [impl_State_v0.l0]
    refine Ev.ite_t (by omega) (Ev.ite_t (by omega) (Ev.ite_t (by omega) (Ev.ite_t (by omega) ?_)))
    have hi' : i < a.length := by omega
    have hm : (a[i]).f2.length ≤ maxLen := Nat.le_trans (hs _ (List.getElem_mem _)) (by decide)
    rw [rdIS hi', rdIS hi]
    have ea : a.getD i z46 = a[i] := by simp [hi']
    have eb : b.getD i z46 = b[i] := by simp [hi]
    rw [ea, eb] at h1 h2
    refine Ev.bind (implES _ _ hm) ?_
    refine Ev.ite (fun e => ?_) (fun e => Ev.val (h2 (by simpa using e)).symm)
    rw [cast_succ hi (by omega)]
    exact h1 e

end Go.Proofs.Ytdepiibcopbjlaa.BFnExactEqualSearch
