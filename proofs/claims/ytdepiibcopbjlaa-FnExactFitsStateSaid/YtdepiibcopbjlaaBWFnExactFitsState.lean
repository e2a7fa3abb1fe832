/- What the reference's and the program's IsWord, LetterIndex and isLetters answer. No statement of the seat is proved here. -/
import Derived.Test.YtdepiibcopbjlaaBFnExactFitsState
import Derived.Test.YtdepiibcopbjlaaPFnExactFitsStatex
namespace Go.Proofs.Ytdepiibcopbjlaa.BFnExactFitsState
open Go.RowKit Go.Proofs.Ytdepiibcopbjlaa.PFnExactFitsState Go.Proofs.YtdepiibcopbjlaaW.PrintWords Go.Proofs.YtdepiibcopbjlaaW.PrintLast
set_option linter.unusedVariables false

/-- the index of a letter -/
def li (b : Int) : Int := if b = 97 then 0 else if b = 98 then 1 else if b = 99 then 2 else -1
def isL (b : Int) : Bool := decide (0 ≤ li b)
/-- the bytes of s from i on, d of them, are letters -/
def allL (s : ByteArray) : Nat → Nat → Bool
  | 0, _ => true
  | d + 1, i => isL (bt s i) && allL s d (i + 1)
def isW (s : ByteArray) : Bool := allL s s.size 0 && decide (s.size ≤ 30)

theorem bt97 : bt (⟨#[97, 98, 99]⟩ : ByteArray) 0 = 97 := by decide
theorem bt98 : bt (⟨#[97, 98, 99]⟩ : ByteArray) 1 = 98 := by decide
theorem bt99 : bt (⟨#[97, 98, 99]⟩ : ByteArray) 2 = 99 := by decide

theorem specLI (b : Int) : Ev (fun k => spec_LetterIndex.f k b) (li b) := by
  refine ⟨4, fun k hk => ?_⟩
  obtain ⟨m, rfl⟩ : ∃ m, k = m + 4 := ⟨k - 4, by omega⟩
  show spec_LetterIndex.l0 (m + 4) b 0 = some (li b)
  have w1 : wrap64 (0 + 1) = 1 := by decide +kernel
  have w2 : wrap64 (1 + 1) = 2 := by decide +kernel
  have w3 : wrap64 (2 + 1) = 3 := by decide +kernel
  simp only [spec_LetterIndex.l0, w1, w2, w3, bt97, bt98, bt99]
  unfold li
  by_cases h1 : b = 97
  · subst h1; simp
  · by_cases h2 : b = 98
    · subst h2; simp
    · by_cases h3 : b = 99
      · subst h3; simp
      · have e1 : ¬ (97 : Int) = b := fun e => h1 e.symm
        have e2 : ¬ (98 : Int) = b := fun e => h2 e.symm
        have e3 : ¬ (99 : Int) = b := fun e => h3 e.symm
        simp [h1, h2, h3, e1, e2, e3]

theorem u8eq {b : Int} (h0 : 0 ≤ b) (h1 : b ≤ 255) (c : UInt8) : (c == b.toNat.toUInt8) = decide (b = (c.toNat : Int)) := by
  rw [Bool.eq_iff_iff]
  simp only [beq_iff_eq, decide_eq_true_eq]
  constructor
  · rintro rfl
    simp
    omega
  · intro h
    subst h
    simp

theorem implLI {b : Int} (h0 : 0 ≤ b) (h1 : b ≤ 255) : impl_LetterIndex.f b = some (li b) := by
  unfold impl_LetterIndex.f strings_IndexByte.f
  simp only [Option.bind_some]
  simp only [Go.Lib.indexByte, u8eq h0 h1]
  unfold li
  by_cases a1 : b = 97
  · subst a1; decide
  · by_cases a2 : b = 98
    · subst a2; decide
    · by_cases a3 : b = 99
      · subst a3; decide
      · have z1 : ¬ b = ((97 : UInt8).toNat : Int) := a1
        have z2 : ¬ b = ((98 : UInt8).toNat : Int) := a2
        have z3 : ¬ b = ((99 : UInt8).toNat : Int) := a3
        simp only [a1, a2, a3, z1, z2, z3, decide_false, if_false, Bool.false_eq_true]
        rfl

theorem li_range (b : Int) : -1 ≤ li b ∧ li b ≤ 2 := by
  unfold li
  split
  · omega
  · split
    · omega
    · split <;> omega
theorem isL_lt (b : Int) : (li b < 0) ↔ isL b = false := by
  unfold isL
  rw [decide_eq_false_iff_not]
  omega

theorem spec_isword_l (s : ByteArray) (hs : s.size ≤ maxLen) (d : Nat) : ∀ i : Nat, i + d = s.size →
    Ev (fun k => spec_IsWord.l0 k s (i : Int)) (allL s d i && decide (s.size ≤ 30)) := by
  rw [maxLen_eq] at hs
  induction d with
  | zero =>
    intro i hi
    refine Ev.up ?_
    simp only [spec_IsWord.l0]
    refine Ev.ite_f (by omega) (Ev.val ?_)
    simp [allL]
    omega
  | succ d ih =>
    intro i hi
    refine Ev.up ?_
    simp only [spec_IsWord.l0]
    refine Ev.ite_t (by omega) (Ev.ite_t (by omega) (Ev.bind (specLI _) ?_))
    by_cases h : li (bt s i) < 0
    · refine Ev.ite_t h (Ev.val ?_)
      simp [allL, (isL_lt _).1 h]
    · refine Ev.ite_f h ?_
      have e : wrap64 ((i : Int) + 1) = ((i + 1 : Nat) : Int) := by rw [wrap_id (by omega) (by omega)]; omega
      rw [e]
      refine Ev.eq (ih (i + 1) (by omega)) ?_
      have : isL (bt s i) = true := by
        cases hh : isL (bt s i) with
        | true => rfl
        | false => exact absurd ((isL_lt _).2 hh) h
      simp [allL, this]

theorem specIW (s : ByteArray) (hs : s.size ≤ maxLen) : Ev (fun k => spec_IsWord.f k s) (isW s) := spec_isword_l s hs s.size 0 (by omega)

theorem impl_letters_l (s : ByteArray) (hs : s.size ≤ maxLen) (d : Nat) : ∀ i : Nat, i + d = s.size →
    Ev (fun k => impl_isLetters.l0 k s (i : Int)) (allL s d i) := by
  rw [maxLen_eq] at hs
  induction d with
  | zero =>
    intro i hi
    refine Ev.up ?_
    simp only [impl_isLetters.l0]
    exact Ev.ite_f (by omega) (Ev.val (by simp [allL]))
  | succ d ih =>
    intro i hi
    refine Ev.up ?_
    simp only [impl_isLetters.l0]
    refine Ev.ite_t (by omega) (Ev.ite_t (by omega) (Ev.bindc (implLI (bt_range _ _).1 (bt_range _ _).2) ?_))
    by_cases h : li (bt s i) < 0
    · refine Ev.ite_t h (Ev.val ?_)
      simp [allL, (isL_lt _).1 h]
    · refine Ev.ite_f h ?_
      have e : wrap64 ((i : Int) + 1) = ((i + 1 : Nat) : Int) := by rw [wrap_id (by omega) (by omega)]; omega
      rw [e]
      refine Ev.eq (ih (i + 1) (by omega)) ?_
      have : isL (bt s i) = true := by
        cases hh : isL (bt s i) with
        | true => rfl
        | false => exact absurd ((isL_lt _).2 hh) h
      simp [allL, this]

theorem implIW (s : ByteArray) (hs : s.size ≤ maxLen) : Ev (fun k => impl_IsWord.f k s) (isW s) := by
  unfold impl_IsWord.f
  refine Ev.ite (fun h => ?_) (fun h => ?_)
  · refine Ev.bind (impl_letters_l s hs s.size 0 (by omega)) (Ev.val ?_)
    have : s.size ≤ 30 := by omega
    simp [isW, this]
  · refine Ev.val ?_
    have : ¬ s.size ≤ 30 := by omega
    simp [isW, this]

end Go.Proofs.Ytdepiibcopbjlaa.BFnExactFitsState
