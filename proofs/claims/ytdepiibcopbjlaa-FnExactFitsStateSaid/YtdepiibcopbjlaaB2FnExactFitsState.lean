/- More small lemmas on loops (Ev). No statement of the seat is proved here. -/
import Derived.Test.YtdepiibcopbjlaaBFnExactFitsState
namespace Go.Proofs.Ytdepiibcopbjlaa.BFnExactFitsState
open Go.RowKit Go.Proofs.YtdepiibcopbjlaaW.PrintWords Go.Proofs.YtdepiibcopbjlaaW.PrintLast
set_option linter.unusedVariables false

theorem Ev.allE {g : Nat → Nat → Option Bool} {n : Nat} {p : Nat → Bool} {e : Bool} (hend : Ev (fun k => g k n) e)
    (hstep : ∀ i, i < n → ∀ r, (p i = true → Ev (fun k => g k (i + 1)) r) → (p i = false → r = false) → Ev (fun k => g k i) r) :
    ∀ d i, i + d = n → Ev (fun k => g k i) (allN p i d && e) := by
  intro d
  induction d with
  | zero => intro i hi; obtain rfl : i = n := by omega
            simpa [allN] using hend
  | succ d ih =>
    intro i hi
    refine hstep i (by omega) _ (fun hp => ?_) (fun hp => by simp [allN, hp])
    have := ih (i + 1) (by omega)
    simp only [allN, hp, Bool.true_and]
    exact this
/-- a loop that answers the first index where p holds, and -1 at the end -/
theorem Ev.idx {g : Nat → Nat → Option Int} {n : Nat} {p : Nat → Bool} (hend : Ev (fun k => g k n) (-1))
    (hstep : ∀ i, i < n → ∀ r : Int, (p i = false → Ev (fun k => g k (i + 1)) r) → (p i = true → r = (i : Int)) → Ev (fun k => g k i) r) :
    ∀ d i, i + d = n → ∃ r : Int, Ev (fun k => g k i) r ∧ decide (r ≥ 0) = anyN p i d := by
  intro d
  induction d with
  | zero => intro i hi; obtain rfl : i = n := by omega
            exact ⟨-1, hend, by simp [anyN]⟩
  | succ d ih =>
    intro i hi
    cases hp : p i with
    | true => exact ⟨(i : Int), hstep i (by omega) _ (fun h => by rw [hp] at h; cases h) (fun _ => rfl), by simp [anyN, hp]⟩
    | false =>
      obtain ⟨r, hr, he⟩ := ih (i + 1) (by omega)
      exact ⟨r, hstep i (by omega) _ (fun _ => hr) (fun h => by rw [hp] at h; cases h), by simp [anyN, hp, he]⟩
theorem anyN_not {p : Nat → Bool} : ∀ d i, anyN (fun j => !p j) i d = !allN p i d
  | 0, _ => rfl
  | d + 1, i => by simp only [anyN, allN, anyN_not d (i + 1), Bool.not_and]

end Go.Proofs.Ytdepiibcopbjlaa.BFnExactFitsState
