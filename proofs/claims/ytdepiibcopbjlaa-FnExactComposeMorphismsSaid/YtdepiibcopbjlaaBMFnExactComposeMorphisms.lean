/- What the reference's and the program's IsMorphism answer. -/
import Derived.Test.YtdepiibcopbjlaaBWFnExactComposeMorphisms
namespace Go.Proofs.Ytdepiibcopbjlaa.BFnExactComposeMorphisms
open Go.RowKit Go.Proofs.Ytdepiibcopbjlaa.PFnExactComposeMorphisms Go.Proofs.YtdepiibcopbjlaaW.PrintWords Go.Proofs.YtdepiibcopbjlaaW.PrintLast
set_option linter.unusedVariables false

def small (s : ByteArray) : Bool := isW s && decide (s.size ≤ 3)
theorem specSmall (s : ByteArray) (hs : s.size ≤ maxLen) : Ev (fun k => spec_l19Small.f k s) (small s) := by
  unfold spec_l19Small.f
  refine Ev.bind (specIW s hs) ?_
  by_cases h : isW s = true
  · refine Ev.ite_t h (Ev.val ?_)
    simp only [small, h, Bool.true_and, decide_eq_decide]
    omega
  · refine Ev.ite_f h (Ev.val ?_)
    simp [small, h]
def mor (a b c : ByteArray) : Bool := small a && (small b && small c)
theorem specMor (a b c : ByteArray) (ha : a.size ≤ maxLen) (hb : b.size ≤ maxLen) (hc : c.size ≤ maxLen) : Ev (fun k => spec_IsMorphism.f k a b c) (mor a b c) := by
  unfold spec_IsMorphism.f
  refine Ev.bind (specSmall a ha) ?_
  by_cases h : small a = true
  · refine Ev.ite_t h (Ev.bind (specSmall b hb) ?_)
    by_cases h2 : small b = true
    · refine Ev.ite_t h2 (Ev.bind (specSmall c hc) (Ev.val ?_))
      simp [mor, h, h2]
    · exact Ev.ite_f h2 (Ev.val (by simp [mor, h2]))
  · exact Ev.ite_f h (Ev.val (by simp [mor, h]))

theorem implStep (l : List ByteArray) (hl : l.length = 3) (hs : ∀ s ∈ l, s.size ≤ maxLen) (i : Nat) (hi : i < 3) (r : Bool) (h : small (rdOf ByteArray.empty l (i : Int)) = true → Ev (fun k => impl_IsMorphism.l0 k l 3 ((i : Int) + 1)) r) (h' : small (rdOf ByteArray.empty l (i : Int)) = false → r = false) :
    Ev (fun k => impl_IsMorphism.l0 k l 3 (i : Int)) r := by
  refine Ev.up ?_
  simp only [impl_IsMorphism.l0]
  have hm : (rdOf ByteArray.empty l (i : Int)).size ≤ maxLen := by
    unfold rdOf
    rw [List.getD_eq_getElem?_getD, List.getElem?_eq_getElem (by simp; omega)]
    exact hs _ (List.getElem_mem _)
  refine Ev.ite_t (by omega) (Ev.ite_t (by omega) (Ev.ite_t (by omega) ?_))
  refine Ev.ite (fun hz => ?_) (fun hz => ?_)
  · refine Ev.val (h' ?_).symm
    have : ¬ (rdOf ByteArray.empty l (i : Int)).size ≤ 3 := by omega
    simp [small, this]
  · refine Ev.bind (implIW _ hm) ?_
    by_cases hw : isW (rdOf ByteArray.empty l (i : Int)) = true
    · refine Ev.ite_t hw ?_
      rw [wrap_id (by omega) (by omega)]
      refine h ?_
      have : (rdOf ByteArray.empty l (i : Int)).size ≤ 3 := by omega
      simp [small, hw, this]
    · exact Ev.ite_f hw (Ev.val (h' (by simp [small, hw])).symm)
theorem implMor (a b c : ByteArray) (ha : a.size ≤ maxLen) (hb : b.size ≤ maxLen) (hc : c.size ≤ maxLen) : Ev (fun k => impl_IsMorphism.f k a b c) (mor a b c) := by
  unfold impl_IsMorphism.f
  simp only [Option.bind_some]
  have hs : ∀ s ∈ [a, b, c], s.size ≤ maxLen := by
    intro s h
    simp at h
    rcases h with rfl | rfl | rfl <;> assumption
  refine implStep [a, b, c] rfl hs 0 (by omega) _ (fun h0 => ?_) (fun h0 => by simp [mor, show small a = false from h0])
  refine implStep [a, b, c] rfl hs 1 (by omega) _ (fun h1 => ?_) (fun h1 => by simp [mor, show small b = false from h1])
  refine implStep [a, b, c] rfl hs 2 (by omega) _ (fun h2 => ?_) (fun h2 => by simp [mor, show small c = false from h2])
  refine Ev.up ?_
  simp only [impl_IsMorphism.l0]
  refine Ev.ite_f (by decide) (Ev.val ?_)
  simp [mor, show small a = true from h0, show small b = true from h1, show small c = true from h2]

end Go.Proofs.Ytdepiibcopbjlaa.BFnExactComposeMorphisms
