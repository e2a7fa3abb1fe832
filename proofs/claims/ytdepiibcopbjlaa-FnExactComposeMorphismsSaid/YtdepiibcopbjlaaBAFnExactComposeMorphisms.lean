/- The program's ApplyMorphism gives what the reference's gives. -/
import Derived.Test.YtdepiibcopbjlaaBBFnExactComposeMorphisms
import Derived.Test.YtdepiibcopbjlaaPFnExactComposeMorphismsx
namespace Go.Proofs.Ytdepiibcopbjlaa.BFnExactComposeMorphisms
open Go.RowKit Go.Proofs.Ytdepiibcopbjlaa.PFnExactComposeMorphisms Go.Proofs.YtdepiibcopbjlaaW.PrintWords Go.Proofs.YtdepiibcopbjlaaW.PrintLast
set_option linter.unusedVariables false

theorem apply_l (A B C s : ByteArray) (hA : A.size ≤ 1048576) (hB : B.size ≤ 1048576) (hC : C.size ≤ 1048576) (hs : s.size ≤ maxLen) (d : Nat) :
    ∀ (i : Nat) (out : ByteArray), i + d = s.size → out.size ≤ 1048576 →
    ∃ r : ByteArray, Ev (fun k => spec_ApplyMorphism.l0 k s out (i : Int) A B C) r ∧ Ev (fun k => impl_replaced_v0.l0 k s (bytesOf out) (i : Int) A B C) r ∧ r.size ≤ 1048576 := by
  rw [maxLen_eq] at hs
  induction d with
  | zero =>
    intro i out hi ho
    refine ⟨out, Ev.up ?_, Ev.up ?_, ho⟩
    · simp only [spec_ApplyMorphism.l0]
      exact Ev.ite_f (by omega) (Ev.val rfl)
    · simp only [impl_replaced_v0.l0]
      exact Ev.ite_f (by omega) (Ev.val (str_bytes out))
  | succ d ih =>
    intro i out hi ho
    have hil : i < s.size := by omega
    have hw : wrap64 ((i : Int) + 1) = ((i + 1 : Nat) : Int) := cast_succ hil (by omega)
    -- one round: a piece t is put behind out
    have put : ∀ t : ByteArray, t.size ≤ 1048576 → ∃ r : ByteArray, (∀ g : Nat → Option ByteArray, (Ev (fun k => spec_ApplyMorphism.l0 k s (out ++ t) ((i + 1 : Nat) : Int) A B C) r → Ev g r) → r.size ≤ 1048576 → True) ∧
        Ev (fun k => if ((out ++ t).size : Int) > 1048576 then (some (⟨#[]⟩ : ByteArray)) else (spec_ApplyMorphism.l0 k s (out ++ t) ((i + 1 : Nat) : Int) A B C)) r ∧
        Ev (fun k => if ((bytesOf out ++ bytesOf t).length : Int) > 1048576 then (some (⟨#[]⟩ : ByteArray)) else (impl_replaced_v0.l0 k s (bytesOf out ++ bytesOf t) ((i + 1 : Nat) : Int) A B C)) r ∧ r.size ≤ 1048576 := by
      intro t ht
      have e : (bytesOf out ++ bytesOf t).length = (out ++ t).size := by rw [← bytesOf_append, bytesOf_length]
      by_cases h : ((out ++ t).size : Int) > 1048576
      · refine ⟨⟨#[]⟩, fun _ _ _ => trivial, Ev.ite_t h (Ev.val rfl), Ev.ite_t (by rw [e]; exact h) (Ev.val rfl), by decide⟩
      · obtain ⟨r, h1, h2, h3⟩ := ih (i + 1) (out ++ t) (by omega) (by omega)
        rw [bytesOf_append] at h2
        exact ⟨r, fun _ _ _ => trivial, Ev.ite_f h h1, Ev.ite_f (by rw [e]; exact h) h2, h3⟩
    have lens : (bytesOf out).length = out.size := bytesOf_length out
    by_cases c1 : bt s (i : Int) = 97
    · obtain ⟨r, _, h1, h2, h3⟩ := put A hA
      refine ⟨r, Ev.up ?_, Ev.up ?_, h3⟩
      · simp only [spec_ApplyMorphism.l0]
        refine Ev.ite_t (by omega) (Ev.ite_t (by omega) (Ev.ite_t c1 (Ev.ite_t (by omega) ?_)))
        rw [hw]
        exact h1
      · simp only [impl_replaced_v0.l0, impl_ApplyMorphism_1_v1.f]
        refine Ev.ite_t (by omega) (Ev.ite_t (by omega) ?_)
        rw [if_pos c1]
        simp only [Option.bind_some]
        refine Ev.ite_t (by simp) (Ev.ite_t (by rw [lens]; omega) ?_)
        rw [hw]
        exact h2
    by_cases c2 : bt s (i : Int) = 98
    · obtain ⟨r, _, h1, h2, h3⟩ := put B hB
      refine ⟨r, Ev.up ?_, Ev.up ?_, h3⟩
      · simp only [spec_ApplyMorphism.l0]
        refine Ev.ite_t (by omega) (Ev.ite_t (by omega) (Ev.ite_f c1 (Ev.ite_t c2 (Ev.ite_t (by omega) ?_))))
        rw [hw]
        exact h1
      · simp only [impl_replaced_v0.l0, impl_ApplyMorphism_1_v1.f]
        refine Ev.ite_t (by omega) (Ev.ite_t (by omega) ?_)
        rw [if_neg c1, if_pos c2]
        simp only [Option.bind_some]
        refine Ev.ite_t (by simp) (Ev.ite_t (by rw [lens]; omega) ?_)
        rw [hw]
        exact h2
    by_cases c3 : bt s (i : Int) = 99
    · obtain ⟨r, _, h1, h2, h3⟩ := put C hC
      refine ⟨r, Ev.up ?_, Ev.up ?_, h3⟩
      · simp only [spec_ApplyMorphism.l0]
        refine Ev.ite_t (by omega) (Ev.ite_t (by omega) (Ev.ite_f c1 (Ev.ite_f c2 (Ev.ite_t c3 (Ev.ite_t (by omega) ?_)))))
        rw [hw]
        exact h1
      · simp only [impl_replaced_v0.l0, impl_ApplyMorphism_1_v1.f]
        refine Ev.ite_t (by omega) (Ev.ite_t (by omega) ?_)
        rw [if_neg c1, if_neg c2, if_pos c3]
        simp only [Option.bind_some]
        refine Ev.ite_t (by simp) (Ev.ite_t (by rw [lens]; omega) ?_)
        rw [hw]
        exact h2
    · have hx : (s.extract i (i + 1)).size = 1 := by rw [ByteArray.size_extract]; omega
      obtain ⟨r, _, h1, h2, h3⟩ := put (s.extract i (i + 1)) (by omega)
      rw [bytesOf_cut s i hil] at h2
      refine ⟨r, Ev.up ?_, Ev.up ?_, h3⟩
      · simp only [spec_ApplyMorphism.l0]
        rw [hw]
        simp only [Int.toNat_natCast]
        refine Ev.ite_t (by omega) (Ev.ite_t (by omega) (Ev.ite_f c1 (Ev.ite_f c2 (Ev.ite_f c3 (Ev.ite_t (by omega) (Ev.ite_t (by omega) (Ev.ite_t (by omega) ?_)))))))
        exact h1
      · simp only [impl_replaced_v0.l0, impl_ApplyMorphism_1_v1.f]
        refine Ev.ite_t (by omega) (Ev.ite_t (by omega) ?_)
        rw [if_neg c1, if_neg c2, if_neg c3]
        simp only [Option.bind_some]
        refine Ev.ite_f (by simp) (Ev.ite_t (by rw [lens]; omega) ?_)
        rw [hw]
        exact h2

theorem applyM (A B C s : ByteArray) (hA : A.size ≤ 1048576) (hB : B.size ≤ 1048576) (hC : C.size ≤ 1048576) (hs : s.size ≤ maxLen) :
    ∃ r : ByteArray, Ev (fun k => spec_ApplyMorphism.f k A B C s) r ∧ Ev (fun k => impl_ApplyMorphism.f k A B C s) r ∧ r.size ≤ 1048576 := by
  obtain ⟨r, h1, h2, h3⟩ := apply_l A B C s hA hB hC hs s.size 0 ⟨#[]⟩ (by omega) (by decide)
  refine ⟨r, h1, ?_, h3⟩
  unfold impl_ApplyMorphism.f impl_replaced_v0.f
  exact Ev.bind h2 (Ev.val rfl)

theorem szMor_some (a b c : ByteArray) (n : Int) : ∃ z, laws_szMorphism.f a b c n = some z := by
  unfold laws_szMorphism.f
  repeat' split
  all_goals exact ⟨_, rfl⟩
theorem szMor {a b c : ByteArray} {n z : Int} (h : laws_szMorphism.f a b c n = some z) (hz : 0 ≤ z) (hn : 0 ≤ n) (hn' : n ≤ 1048576) (ha : a.size ≤ maxLen) (hb : b.size ≤ maxLen) (hc : c.size ≤ maxLen) :
    z ≤ n ∧ a.size ≤ 1048576 ∧ b.size ≤ 1048576 ∧ c.size ≤ 1048576 := by
  rw [maxLen_eq] at ha hb hc
  unfold laws_szMorphism.f at h
  rw [wrap_id (n := n - (a.size : Int)) (by omega) (by omega)] at h
  split at h
  · injection h with h; omega
  · rw [wrap_id (n := n - (a.size : Int) - (b.size : Int)) (by omega) (by omega)] at h
    split at h
    · injection h with h; omega
    · rw [wrap_id (n := n - (a.size : Int) - (b.size : Int) - (c.size : Int)) (by omega) (by omega)] at h
      split at h
      · injection h with h; omega
      · injection h with h; omega

end Go.Proofs.Ytdepiibcopbjlaa.BFnExactComposeMorphisms
