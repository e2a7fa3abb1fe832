/- The program's ApplyValues gives what the reference's gives. No statement of the seat is proved here. -/
import Derived.Test.YtdepiibcopbjlaaBBFnExactFitsState
import Derived.Test.YtdepiibcopbjlaaBWFnExactFitsState
namespace Go.Proofs.Ytdepiibcopbjlaa.BFnExactFitsState
open Go.RowKit Go.Proofs.Ytdepiibcopbjlaa.PFnExactFitsState Go.Proofs.YtdepiibcopbjlaaW.PrintWords Go.Proofs.YtdepiibcopbjlaaW.PrintLast
set_option linter.unusedVariables false

def isV (b : Int) : Bool := decide (b = 88) || (decide (b = 89) || decide (b = 90))
def vof (A B C : ByteArray) (b : Int) : ByteArray := if b = 88 then A else if b = 89 then B else if b = 90 then C else ⟨#[]⟩
theorem specVar (b : Int) : spec_l8Var.f b = some (isV b) := by
  unfold spec_l8Var.f isV
  split
  · congr 1
    rw [Bool.eq_iff_iff]
    simp
    omega
  · congr 1
    symm
    simp
    omega
theorem implVar {b : Int} (h0 : 0 ≤ b) (h1 : b ≤ 255) : impl_isVariable.f b = some (isV b) := by
  unfold impl_isVariable.f strings_IndexByte.f
  simp only [Option.bind_some]
  simp only [Go.Lib.indexByte, u8eq h0 h1]
  unfold isV
  by_cases a1 : b = 88
  · subst a1; decide
  · by_cases a2 : b = 89
    · subst a2; decide
    · by_cases a3 : b = 90
      · subst a3; decide
      · have z1 : ¬ b = ((88 : UInt8).toNat : Int) := a1
        have z2 : ¬ b = ((89 : UInt8).toNat : Int) := a2
        have z3 : ¬ b = ((90 : UInt8).toNat : Int) := a3
        simp only [a1, a2, a3, z1, z2, z3, decide_false, if_false, Bool.false_eq_true, Bool.or_self]
        rfl
theorem specVal (A B C : ByteArray) (b : Int) : spec_ValueOf.f A B C b = some (vof A B C b) := by
  unfold spec_ValueOf.f vof
  repeat' split
  all_goals rfl
theorem implVal (A B C : ByteArray) (b : Int) : impl_ValueOf.f A B C b = some (vof A B C b) := by
  unfold impl_ValueOf.f vof
  repeat' split
  all_goals rfl
theorem vof_size {A B C : ByteArray} {b : Int} {n : Nat} (hA : A.size ≤ n) (hB : B.size ≤ n) (hC : C.size ≤ n) : (vof A B C b).size ≤ n := by
  unfold vof
  repeat' split
  all_goals first | assumption | exact Nat.zero_le _

theorem values_l (A B C s : ByteArray) (hA : A.size ≤ 1048576) (hB : B.size ≤ 1048576) (hC : C.size ≤ 1048576) (hs : s.size ≤ maxLen) (d : Nat) :
    ∀ (i : Nat) (out : ByteArray), i + d = s.size → out.size ≤ 1048576 →
    ∃ r : ByteArray, Ev (fun k => spec_ApplyValues.l0 k s out (i : Int) A B C) r ∧ Ev (fun k => impl_replaced_v6.l0 k s (bytesOf out) (i : Int) A B C) r ∧ r.size ≤ 1048576 := by
  rw [maxLen_eq] at hs
  induction d with
  | zero =>
    intro i out hi ho
    refine ⟨out, Ev.up ?_, Ev.up ?_, ho⟩
    · simp only [spec_ApplyValues.l0]
      exact Ev.ite_f (by omega) (Ev.val rfl)
    · simp only [impl_replaced_v6.l0]
      exact Ev.ite_f (by omega) (Ev.val (str_bytes out))
  | succ d ih =>
    intro i out hi ho
    have hil : i < s.size := by omega
    have hw : wrap64 ((i : Int) + 1) = ((i + 1 : Nat) : Int) := cast_succ hil (by omega)
    -- one round: a piece t is put behind out
    have put : ∀ t : ByteArray, t.size ≤ 1048576 → ∃ r : ByteArray,
        Ev (fun k => if ((out ++ t).size : Int) > 1048576 then (some (⟨#[]⟩ : ByteArray)) else (spec_ApplyValues.l0 k s (out ++ t) ((i + 1 : Nat) : Int) A B C)) r ∧
        Ev (fun k => if ((bytesOf out ++ bytesOf t).length : Int) > 1048576 then (some (⟨#[]⟩ : ByteArray)) else (impl_replaced_v6.l0 k s (bytesOf out ++ bytesOf t) ((i + 1 : Nat) : Int) A B C)) r ∧ r.size ≤ 1048576 := by
      intro t ht
      have e : (bytesOf out ++ bytesOf t).length = (out ++ t).size := by rw [← bytesOf_append, bytesOf_length]
      by_cases h : ((out ++ t).size : Int) > 1048576
      · refine ⟨⟨#[]⟩, Ev.ite_t h (Ev.val rfl), Ev.ite_t (by rw [e]; exact h) (Ev.val rfl), by decide⟩
      · obtain ⟨r, h1, h2, h3⟩ := ih (i + 1) (out ++ t) (by omega) (by omega)
        rw [bytesOf_append] at h2
        exact ⟨r, Ev.ite_f h h1, Ev.ite_f (by rw [e]; exact h) h2, h3⟩
    have lens : (bytesOf out).length = out.size := bytesOf_length out
    have hf : impl_ApplyValues_1_v7.f (bt s (i : Int)) A B C = some (vof A B C (bt s (i : Int)), isV (bt s (i : Int))) := by
      unfold impl_ApplyValues_1_v7.f
      rw [implVal, implVar (bt_range _ _).1 (bt_range _ _).2]
      rfl
    cases c1 : isV (bt s (i : Int)) with
    | true =>
      have ht := vof_size (b := bt s (i : Int)) hA hB hC
      obtain ⟨r, h1, h2, h3⟩ := put (vof A B C (bt s (i : Int))) ht
      refine ⟨r, Ev.up ?_, Ev.up ?_, h3⟩
      · simp only [spec_ApplyValues.l0]
        refine Ev.ite_t (by omega) (Ev.ite_t (by omega) (Ev.bindc (specVar _) (Ev.ite_t c1 (Ev.bindc (specVal _ _ _ _) (Ev.ite_t (by omega) ?_)))))
        rw [hw]
        exact h1
      · simp only [impl_replaced_v6.l0]
        refine Ev.ite_t (by omega) (Ev.ite_t (by omega) (Ev.bindc hf ?_))
        simp only [Option.bind_some]
        refine Ev.ite_t c1 (Ev.ite_t (by rw [lens]; omega) ?_)
        rw [hw]
        exact h2
    | false =>
      have hx : (s.extract i (i + 1)).size = 1 := by rw [ByteArray.size_extract]; omega
      obtain ⟨r, h1, h2, h3⟩ := put (s.extract i (i + 1)) (by omega)
      rw [bytesOf_cut s i hil] at h2
      refine ⟨r, Ev.up ?_, Ev.up ?_, h3⟩
      · simp only [spec_ApplyValues.l0]
        rw [hw]
        simp only [Int.toNat_natCast]
        refine Ev.ite_t (by omega) (Ev.ite_t (by omega) (Ev.bindc (specVar _) (Ev.ite_f (by simp [c1]) (Ev.ite_t (by omega) (Ev.ite_t (by omega) (Ev.ite_t (by omega) ?_))))))
        exact h1
      · simp only [impl_replaced_v6.l0]
        refine Ev.ite_t (by omega) (Ev.ite_t (by omega) (Ev.bindc hf ?_))
        simp only [Option.bind_some]
        refine Ev.ite_f (by simp [c1]) (Ev.ite_t (by rw [lens]; omega) ?_)
        rw [hw]
        exact h2

theorem applyV (A B C s : ByteArray) (hA : A.size ≤ 1048576) (hB : B.size ≤ 1048576) (hC : C.size ≤ 1048576) (hs : s.size ≤ maxLen) :
    ∃ r : ByteArray, Ev (fun k => spec_ApplyValues.f k s A B C) r ∧ Ev (fun k => impl_ApplyValues.f k s A B C) r ∧ r.size ≤ 1048576 := by
  obtain ⟨r, h1, h2, h3⟩ := values_l A B C s hA hB hC hs s.size 0 ⟨#[]⟩ (by omega) (by decide)
  refine ⟨r, h1, ?_, h3⟩
  unfold impl_ApplyValues.f impl_replaced_v6.f
  exact Ev.bind h2 (Ev.val rfl)
theorem szVal_some (a b c : ByteArray) (n : Int) : ∃ z, laws_szValues.f a b c n = some z := by
  unfold laws_szValues.f
  repeat' split
  all_goals exact ⟨_, rfl⟩
theorem szVal {a b c : ByteArray} {n z : Int} (h : laws_szValues.f a b c n = some z) (hz : 0 ≤ z) (hn : 0 ≤ n) (hn' : n ≤ 1048576) (ha : a.size ≤ maxLen) (hb : b.size ≤ maxLen) (hc : c.size ≤ maxLen) :
    z ≤ n ∧ a.size ≤ 1048576 ∧ b.size ≤ 1048576 ∧ c.size ≤ 1048576 := by
  rw [maxLen_eq] at ha hb hc
  unfold laws_szValues.f at h
  rw [wrap_id (n := n - (a.size : Int)) (by omega) (by omega)] at h
  split at h
  · injection h with h; omega
  · rw [wrap_id (n := n - (a.size : Int) - (b.size : Int)) (by omega) (by omega)] at h
    split at h
    · injection h with h; omega
    · rw [wrap_id (n := n - (a.size : Int) - (b.size : Int) - (c.size : Int)) (by omega) (by omega)] at h
      split at h
      · injection h with h; omega
      · injection h with h; omega

end Go.Proofs.Ytdepiibcopbjlaa.BFnExactFitsState
