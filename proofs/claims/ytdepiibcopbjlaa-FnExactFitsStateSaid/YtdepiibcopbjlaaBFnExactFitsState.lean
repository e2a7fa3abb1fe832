/- Small lemmas on "with enough rounds" (Ev) and on wrapping integers. No statement of the seat is proved here. -/
import Derived.Test.YtdepiibcopbjlaaWNEv
namespace Go.Proofs.Ytdepiibcopbjlaa.BFnExactFitsState
open Go.RowKit Go.Proofs.YtdepiibcopbjlaaW.PrintWords Go.Proofs.YtdepiibcopbjlaaW.PrintLast
set_option linter.unusedVariables false

theorem Ev.ite_t {α : Type} {c : Prop} [Decidable c] {g f : Nat → Option α} {r : α} (h : c) (k : Ev g r) : Ev (fun n => if c then g n else f n) r := by
  obtain ⟨K, hK⟩ := k
  exact ⟨K, fun n hn => by show (if c then g n else f n) = some r; rw [if_pos h]; exact hK n hn⟩
theorem Ev.ite_f {α : Type} {c : Prop} [Decidable c] {g f : Nat → Option α} {r : α} (h : ¬ c) (k : Ev f r) : Ev (fun n => if c then g n else f n) r := by
  obtain ⟨K, hK⟩ := k
  exact ⟨K, fun n hn => by show (if c then g n else f n) = some r; rw [if_neg h]; exact hK n hn⟩
theorem Ev.ite {α : Type} {c : Prop} [Decidable c] {g f : Nat → Option α} {r : α} (h1 : c → Ev g r) (h2 : ¬ c → Ev f r) : Ev (fun n => if c then g n else f n) r := by
  by_cases h : c
  · exact Ev.ite_t h (h1 h)
  · exact Ev.ite_f h (h2 h)
theorem Ev.val {α : Type} {r r' : α} (h : r = r') : Ev (fun _ => some r) r' := ⟨0, fun _ _ => by rw [h]⟩
theorem Ev.bindc {α β : Type} {o : Option α} {f : Nat → α → Option β} {a : α} {r : β} (h : o = some a) (k : Ev (fun n => f n a) r) : Ev (fun n => o.bind (f n)) r := by
  obtain ⟨K, hK⟩ := k
  exact ⟨K, fun n hn => by show o.bind (f n) = some r; rw [h]; exact hK n hn⟩
theorem Ev.eq {α : Type} {g : Nat → Option α} {r r' : α} (h : Ev g r) (e : r = r') : Ev g r' := e ▸ h
theorem Ev.up {α : Type} {g : Nat → Option α} {r : α} (h : Ev (fun k => g (k + 1)) r) : Ev g r := by
  obtain ⟨K, hK⟩ := h
  exact ⟨K + 1, fun n hn => by obtain ⟨m, rfl⟩ : ∃ m, n = m + 1 := ⟨n - 1, by omega⟩; exact hK m (by omega)⟩
theorem wrap_id {n : Int} (h1 : -9223372036854775808 ≤ n) (h2 : n ≤ 9223372036854775807) : wrap64 n = n := by unfold wrap64; omega
theorem maxLen_eq : maxLen = 9223372036854775807 := rfl
theorem bool_ne_self (b : Bool) : (b != b) = false := by cases b <;> rfl

/-- a loop that answers 'false' at the first index where p fails, and 'true' at the end -/
def allN (p : Nat → Bool) (i : Nat) : Nat → Bool
  | 0 => true
  | d + 1 => p i && allN p (i + 1) d
theorem Ev.all {g : Nat → Nat → Option Bool} {n : Nat} {p : Nat → Bool} (hend : Ev (fun k => g k n) true)
    (hstep : ∀ i, i < n → ∀ r, (p i = true → Ev (fun k => g k (i + 1)) r) → (p i = false → r = false) → Ev (fun k => g k i) r) :
    ∀ d i, i + d = n → Ev (fun k => g k i) (allN p i d) := by
  intro d
  induction d with
  | zero => intro i hi; obtain rfl : i = n := by omega
            exact hend
  | succ d ih =>
    intro i hi
    refine hstep i (by omega) _ (fun hp => ?_) (fun hp => by simp [allN, hp])
    have := ih (i + 1) (by omega)
    simp only [allN, hp, Bool.true_and]
    exact this
/-- a loop that answers 'true' at the first index where p holds, and 'false' at the end -/
def anyN (p : Nat → Bool) (i : Nat) : Nat → Bool
  | 0 => false
  | d + 1 => p i || anyN p (i + 1) d
theorem Ev.any {g : Nat → Nat → Option Bool} {n : Nat} {p : Nat → Bool} (hend : Ev (fun k => g k n) false)
    (hstep : ∀ i, i < n → ∀ r, (p i = false → Ev (fun k => g k (i + 1)) r) → (p i = true → r = true) → Ev (fun k => g k i) r) :
    ∀ d i, i + d = n → Ev (fun k => g k i) (anyN p i d) := by
  intro d
  induction d with
  | zero => intro i hi; obtain rfl : i = n := by omega
            exact hend
  | succ d ih =>
    intro i hi
    refine hstep i (by omega) _ (fun hp => ?_) (fun hp => by simp [anyN, hp])
    have := ih (i + 1) (by omega)
    simp only [anyN, hp, Bool.false_or]
    exact this
theorem allN_true {p : Nat → Bool} : ∀ d i, (∀ j, i ≤ j → j < i + d → p j = true) → allN p i d = true
  | 0, _, _ => rfl
  | d + 1, i, h => by simp only [allN]; rw [h i (by omega) (by omega), allN_true d (i + 1) (fun j h1 h2 => h j (by omega) (by omega))]; rfl
theorem allN_iff {p : Nat → Bool} : ∀ d i, allN p i d = true ↔ ∀ j, i ≤ j → j < i + d → p j = true
  | 0, i => ⟨fun _ j h1 h2 => by omega, fun _ => rfl⟩
  | d + 1, i => by
    simp only [allN, Bool.and_eq_true, allN_iff d (i + 1)]
    constructor
    · rintro ⟨h, h'⟩ j h1 h2
      by_cases e : j = i
      · exact e ▸ h
      · exact h' j (by omega) (by omega)
    · intro h
      exact ⟨h i (by omega) (by omega), fun j h1 h2 => h j (by omega) (by omega)⟩
/-- a loop that fills a list, cell by cell -/
theorem Ev.fill {α β : Type} {g : Nat → Nat → List α → Option β} {n : Nat} {F : Nat → α} {r : β} (out' : List α) (hl : out'.length = n) (hF : ∀ j, j < n → out'[j]? = some (F j))
    (hend : Ev (fun k => g k n out') r)
    (hstep : ∀ i out, i < n → out.length = n → Ev (fun k => g k (i + 1) (out.set i (F i))) r → Ev (fun k => g k i out) r) :
    ∀ d i out, i + d = n → out.length = n → (∀ j, j < i → out[j]? = some (F j)) → Ev (fun k => g k i out) r := by
  intro d
  induction d with
  | zero =>
    intro i out hi ho hj
    obtain rfl : i = n := by omega
    have : out = out' := by
      apply List.ext_getElem?
      intro j
      by_cases hlt : j < i
      · rw [hj j hlt, hF j hlt]
      · rw [List.getElem?_eq_none (by omega), List.getElem?_eq_none (by omega)]
    rw [this]
    exact hend
  | succ d ih =>
    intro i out hi ho hj
    refine hstep i out (by omega) ho (ih (i + 1) _ (by omega) (by simp [ho]) (fun j hjl => ?_))
    rw [List.getElem?_set]
    by_cases e : i = j
    · subst e; simp [ho]; omega
    · rw [if_neg e]; exact hj j (by omega)
theorem cast_succ {i n : Nat} (h : i < n) (hn : n ≤ 9223372036854775807) : wrap64 ((i : Int) + 1) = ((i + 1 : Nat) : Int) := by
  rw [wrap_id (by omega) (by omega)]; omega

end Go.Proofs.Ytdepiibcopbjlaa.BFnExactFitsState
