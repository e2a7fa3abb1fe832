/- Sizes of automata. Comparisons of automata. Sizes and copies of morphisms. The law of PreimageDfa. Typed cells as the laws' data. -/
import Derived.Test.YtbdciemhapmhcaaProg
import Derived.Test.YtbdciemhapmhcaaEvS
import Derived.Test.YtbdciemhapmhcaaEvN
import Derived.Test.YtbdciemhapmhcaaEvU
import Derived.Test.YtbdciemhapmhcaaEvQ
set_option linter.unusedVariables false
set_option linter.unusedSimpArgs false
namespace Go.Ev
open Go Go.Proofs
set_option maxRecDepth 10000
set_option linter.unusedVariables false
set_option linter.unusedSimpArgs false
theorem szL_B (l : List Bool) : szL (l.map B) = 0 := by
  induction l with
  | nil => rfl
  | cons a l ih => rw [List.map_cons, szL, ih]; rfl

theorem r44 (l : List Bool) (hl : l.length ≤ 9223372036854775807) (left : Int) (h0 : 0 ≤ left) (h1 : left ≤ 1048576) : run EE 44 [.slc false 1 (l.map B), .int .i64 left] [] = some (.int .i64 (szR (.slc false 1 (l.map B)) left), []) := by
  rw [run_eq EE 44 _ _ Try.func44 (by decide +kernel) rfl (show 2 ≤ _ by decide)]
  dsimp only [Try.f44]
  have w := wrap_in (n := left - (l.length : Int)) (by omega) (by omega)
  simp only [go_sem, w, szR, szT, szL_B]
  refine condL_dec (fun c1 => ?_) (fun c1 => ?_)
  · simp only [go_sem]
    rw [leftOf_neg (by omega)]
  · simp only [go_sem]
    rw [leftOf_pos (by omega)]
    rfl

theorem r69 (l : List Int) (hl : l.length ≤ 9223372036854775807) (left : Int) (h0 : 0 ≤ left) (h1 : left ≤ 1048576) : run EE 69 [.slc false 1 (l.map I), .int .i64 left] [] = some (.int .i64 (szR (.slc false 1 (l.map I)) left), []) := by
  rw [run_eq EE 69 _ _ Try.func69 (by decide +kernel) rfl (show 2 ≤ _ by decide)]
  dsimp only [Try.f69]
  have w := wrap_in (n := left - (l.length : Int)) (by omega) (by omega)
  simp only [go_sem, w, szR, szT, szL_I]
  refine condL_dec (fun c1 => ?_) (fun c1 => ?_)
  · simp only [go_sem]
    rw [leftOf_neg (by omega)]
  · simp only [go_sem]
    rw [leftOf_pos (by omega)]
    rfl

theorem r45 (l : List (List Int)) (hl : l.length ≤ 9223372036854775807) (hc : ∀ x ∈ l, ∀ left : Int, 0 ≤ left → left ≤ 1048576 → run EE 69 [(IL x), .int .i64 left] [] = some (.int .i64 (szR (IL x) left), [])) (left : Int) (h0 : 0 ≤ left) (h1 : left ≤ 1048576) : run EE 45 [.slc false 1 (l.map IL), .int .i64 left] [] = some (.int .i64 (szR (.slc false 1 (l.map IL)) left), []) := by
  rw [run_eq EE 45 _ _ Try.func45 (by decide +kernel) rfl (show 2 ≤ _ by decide)]
  dsimp only [Try.f45]
  have w := wrap_in (n := left - (l.length : Int)) (by omega) (by omega)
  simp only [go_sem, w]
  have e : szR (.slc false 1 (l.map IL)) left = leftOf (l.length + szL (l.map IL)) left := by simp only [szR, szT, List.length_map]
  rw [e]
  refine condL_dec (fun c => ?_) (fun c => ?_)
  · simp only [go_sem]
    rw [leftOf_neg (by omega)]
  simp only [go_sem]
  refine (iter_inv (fun x : Nat × Int => x.1 ≤ l.length ∧ 0 ≤ x.2 ∧ x.2 ≤ 1048576) (fun x => { t := upd (upd (upd (e0) 5 (.int .i64 x.1)) 1 (.int .i64 x.2)) 0 (.slc false 1 (l.map IL)), b := n0, o := [], r := #[ResultVar.tmp 4], f := 45, n := 27 }) (fun x => some (.int .i64 (szRL ((l.drop x.1).map IL) x.2), [])) (fun x => l.length - x.1) ?_ (0, left - (l.length : Int)) ⟨Nat.zero_le _, by show 0 ≤ left - (l.length : Int); omega, by show left - (l.length : Int) ≤ 1048576; omega⟩).trans ?_
  · rintro ⟨i, left⟩ ⟨hi, a0, a1⟩ ih
    dsimp only at hi a0 a1 ⊢
    by_cases h : i < l.length
    · have k1 : (i : Int) < l.length := by omega
      have w := wrap_nat (n := i) (by omega)
      have hx := hc l[i] (List.getElem_mem h) left a0 a1
      rw [List.drop_eq_getElem_cons h, List.map_cons, szRL_cons]
      have hle : szR (IL l[i]) left ≤ left ∨ szR (IL l[i]) left = -1 := by unfold szR leftOf; split <;> omega
      generalize szR (IL l[i]) left = r at hx hle ⊢
      simp only [Rx.enc_eq, Vals.enc, Mor.enc, Sta.enc, Con.enc, Line.enc, Ans.enc, Prob.enc, Prog.enc, Ses.enc, Equ.enc, Mon.enc, Frm.enc, Mov.enc, Stp.enc, Dfa.enc, IL, I, B] at hx
      simp only [go_sem, k1, w, getD_map h, hx]
      refine condL_dec (fun c => ?_) (fun c => ?_)
      · simp only [go_sem]
        rw [if_pos c]
      · simp only [go_sem, w]
        rw [if_neg c]
        exact ih (i + 1, r) ⟨by show i + 1 ≤ l.length; omega, by show 0 ≤ r; omega, by show r ≤ 1048576; omega⟩ (by show l.length - (i + 1) < l.length - i; omega)
    · have k1 : ¬ (i : Int) < l.length := by omega
      simp only [go_sem, k1]
      rw [List.drop_eq_nil_of_le (by omega)]
      show _ = some (V.int .i64 (leftOf 0 left), [])
      rw [leftOf_pos (by omega)]
      simp
  · show some (V.int .i64 (leftOf (szL (l.map IL)) (left - (l.length : Int))), []) = _
    by_cases h : (szL (l.map IL) : Int) ≤ left - l.length
    · rw [leftOf_pos h, leftOf_pos (by omega)]
      refine congrArg some (congrArg (·, []) (congrArg (V.int .i64) ?_))
      omega
    · rw [leftOf_neg h, leftOf_neg (by omega)]

theorem r8 (x : Dfa) (ho : okV x.enc) (left : Int) (h0 : 0 ≤ left) (h1 : left ≤ 1048576) : run EE 8 [x.enc, .int .i64 left] [] = some (.int .i64 (szR x.enc left), []) := by
  have ho' := ho
  simp only [Rx.enc_eq, Vals.enc, Mor.enc, Sta.enc, Con.enc, Line.enc, Ans.enc, Prob.enc, Prog.enc, Ses.enc, Equ.enc, Mon.enc, Frm.enc, Mov.enc, Stp.enc, Dfa.enc, IL, I, B, okV, okL, and_true, true_and, List.length_map] at ho'
  rw [run_eq EE 8 _ _ Try.func8 (by decide +kernel) rfl (show 2 ≤ _ by decide)]
  dsimp only [Try.f8]
  have e : szR x.enc left = leftOf (szT x.enc) left := rfl
  rw [e]
  simp only [Rx.enc_eq, Vals.enc, Mor.enc, Sta.enc, Con.enc, Line.enc, Ans.enc, Prob.enc, Prog.enc, Ses.enc, Equ.enc, Mon.enc, Frm.enc, Mov.enc, Stp.enc, Dfa.enc, IL, I, B, szT, szL, List.length_map]
  have w1 := r44 x.accept (by simp only [Rx.enc_eq, Vals.enc, Mor.enc, Sta.enc, Con.enc, Line.enc, Ans.enc, Prob.enc, Prog.enc, Ses.enc, Equ.enc, Mon.enc, Frm.enc, Mov.enc, Stp.enc, Dfa.enc, IL, I, B, okV, okL, and_true, true_and, List.length_map] at ho; omega) (left) (by omega) (by omega)
  unfold szR at w1
  generalize hn1 : szT (.slc false 1 (x.accept.map B)) = n1 at w1
  simp only [Rx.enc_eq, Vals.enc, Mor.enc, Sta.enc, Con.enc, Line.enc, Ans.enc, Prob.enc, Prog.enc, Ses.enc, Equ.enc, Mon.enc, Frm.enc, Mov.enc, Stp.enc, Dfa.enc, IL, I, B, szT, szL, List.length_map] at w1 hn1
  simp only [go_sem, w1]
  refine condL_dec (fun c1 => ?_) (fun c1 => ?_)
  · have := leftOf_lt (by omega) c1
    simp only [go_sem]
    rw [leftOf_neg (by omega)]
  obtain ⟨e1, b1⟩ := leftOf_ge c1
  have w2 := r45 x.next (by simp only [Rx.enc_eq, Vals.enc, Mor.enc, Sta.enc, Con.enc, Line.enc, Ans.enc, Prob.enc, Prog.enc, Ses.enc, Equ.enc, Mon.enc, Frm.enc, Mov.enc, Stp.enc, Dfa.enc, IL, I, B, okV, okL, and_true, true_and, List.length_map] at ho; omega) (fun z hz left a b => r69 z (by have := okL_map (f := IL) (by simp only [Rx.enc_eq, Vals.enc, Mor.enc, Sta.enc, Con.enc, Line.enc, Ans.enc, Prob.enc, Prog.enc, Ses.enc, Equ.enc, Mon.enc, Frm.enc, Mov.enc, Stp.enc, Dfa.enc, okV, okL, and_true, true_and, List.length_map] at ho; simp only [ho]) hz; simp only [IL, okV, List.length_map] at this; exact this.1) left a b) (left - (n1 : Int)) (by omega) (by omega)
  unfold szR at w2
  generalize hn2 : szT (.slc false 1 (x.next.map IL)) = n2 at w2
  simp only [Rx.enc_eq, Vals.enc, Mor.enc, Sta.enc, Con.enc, Line.enc, Ans.enc, Prob.enc, Prog.enc, Ses.enc, Equ.enc, Mon.enc, Frm.enc, Mov.enc, Stp.enc, Dfa.enc, IL, I, B, szT, szL, List.length_map] at w2 hn2
  simp only [go_sem, w2, e1]
  refine condL_dec (fun c2 => ?_) (fun c2 => ?_)
  · have := leftOf_lt (by omega) c2
    simp only [go_sem, e1]
    rw [leftOf_neg (by omega)]
  obtain ⟨e2, b2⟩ := leftOf_ge c2
  simp only [go_sem, e1, e2]
  rw [leftOf_pos (by omega)]
  refine congrArg some (congrArg (·, []) (congrArg (V.int .i64) ?_))
  omega
end Go.Ev
namespace Go.Ev
open Go Go.Proofs
set_option maxRecDepth 10000
set_option linter.unusedVariables false
set_option linter.unusedSimpArgs false
theorem r57 (l m : List Bool) (hl : l.length ≤ 1048576) : run EE 57 [.slc false 1 (l.map B), .slc false 1 (m.map B)] [] = some (.bool (veqs (l.map B) (m.map B)), []) := by
  rw [run_eq EE 57 _ _ Try.func57 (by decide +kernel) rfl (show 2 ≤ _ by decide)]
  dsimp only [Try.f57]
  by_cases hn : l.length = m.length
  · have hn' : (l.length : Int) = m.length := by omega
    simp only [go_sem, hn', bne_self_eq_false]
    refine iter_inv (fun i : Nat => i ≤ l.length) (fun i => { t := upd (upd (upd (e0) 5 (.int .i64 i)) 1 (.slc false 1 (m.map B))) 0 (.slc false 1 (l.map B)), b := n0, o := [], r := #[ResultVar.tmp 4], f := 57, n := 26 }) (fun i => some (.bool (veqs ((l.drop i).map B) ((m.drop i).map B)), [])) (fun i => l.length - i) ?_ 0 (Nat.zero_le _)
    intro i hi ih
    by_cases h : i < l.length
    · have h1 : (i : Int) < l.length := by omega
      have h1' : (i : Int) < m.length := by omega
      have h' : i < m.length := by omega
      have w := wrap_nat (n := i) (by omega)
      simp only [go_sem, h1, h1']
      rw [q_drawn]
      rotate_left
      · kernel_rfl
      simp only [go_sem, h1, h1', w, getD_map h, getD_map h', B]
      rw [List.drop_eq_getElem_cons h, List.drop_eq_getElem_cons h', List.map_cons, List.map_cons, veqs_cons]
      refine condL_bool (fun c => ?_) (fun c => ?_)
      · have c' : (l[i] == m[i]) = false := by simpa [bne] using c
        simp only [go_sem, B, veq, c', Bool.false_and]
      · have c' : (l[i] == m[i]) = true := by simpa [bne] using c
        simp only [go_sem, w, B, veq, c', Bool.true_and]
        exact ih (i + 1) (by omega) (by omega)
    · have h1 : ¬ (i : Int) < l.length := by omega
      have h1' : ¬ (i : Int) < m.length := by omega
      have e1 : l.drop i = [] := List.drop_eq_nil_of_le (by omega)
      have e2 : m.drop i = [] := List.drop_eq_nil_of_le (by omega)
      simp only [go_sem, h1, h1', e1, e2, veqs]
  · have hn' : ((l.length : Int) != m.length) = true := by simp; omega
    simp only [go_sem, hn']
    rw [veqs_ne (by simpa using hn)]

theorem r40 (l m : List Int) (hl : l.length ≤ 1048576) : run EE 40 [.slc false 1 (l.map I), .slc false 1 (m.map I)] [] = some (.bool (veqs (l.map I) (m.map I)), []) := by
  rw [run_eq EE 40 _ _ Try.func40 (by decide +kernel) rfl (show 2 ≤ _ by decide)]
  dsimp only [Try.f40]
  by_cases hn : l.length = m.length
  · have hn' : (l.length : Int) = m.length := by omega
    simp only [go_sem, hn', bne_self_eq_false]
    refine iter_inv (fun i : Nat => i ≤ l.length) (fun i => { t := upd (upd (upd (e0) 5 (.int .i64 i)) 1 (.slc false 1 (m.map I))) 0 (.slc false 1 (l.map I)), b := n0, o := [], r := #[ResultVar.tmp 4], f := 40, n := 26 }) (fun i => some (.bool (veqs ((l.drop i).map I) ((m.drop i).map I)), [])) (fun i => l.length - i) ?_ 0 (Nat.zero_le _)
    intro i hi ih
    by_cases h : i < l.length
    · have h1 : (i : Int) < l.length := by omega
      have h1' : (i : Int) < m.length := by omega
      have h' : i < m.length := by omega
      have w := wrap_nat (n := i) (by omega)
      simp only [go_sem, h1, h1']
      rw [q_drawn]
      rotate_left
      · kernel_rfl
      simp only [go_sem, h1, h1', w, getD_map h, getD_map h', I]
      rw [List.drop_eq_getElem_cons h, List.drop_eq_getElem_cons h', List.map_cons, List.map_cons, veqs_cons]
      refine condL_bool (fun c => ?_) (fun c => ?_)
      · have c' : (l[i] == m[i]) = false := by simpa [bne] using c
        simp only [go_sem, I, veq, c', Bool.false_and]
      · have c' : (l[i] == m[i]) = true := by simpa [bne] using c
        simp only [go_sem, w, I, veq, c', Bool.true_and]
        exact ih (i + 1) (by omega) (by omega)
    · have h1 : ¬ (i : Int) < l.length := by omega
      have h1' : ¬ (i : Int) < m.length := by omega
      have e1 : l.drop i = [] := List.drop_eq_nil_of_le (by omega)
      have e2 : m.drop i = [] := List.drop_eq_nil_of_le (by omega)
      simp only [go_sem, h1, h1', e1, e2, veqs]
  · have hn' : ((l.length : Int) != m.length) = true := by simp; omega
    simp only [go_sem, hn']
    rw [veqs_ne (by simpa using hn)]

theorem r58 (l m : List (List Int)) (hl : l.length ≤ 1048576) (hc : ∀ x ∈ l, ∀ y : (List Int), run EE 40 [(IL x), (IL y)] [] = some (.bool (veq (IL x) (IL y)), [])) : run EE 58 [.slc false 1 (l.map IL), .slc false 1 (m.map IL)] [] = some (.bool (veqs (l.map IL) (m.map IL)), []) := by
  rw [run_eq EE 58 _ _ Try.func58 (by decide +kernel) rfl (show 2 ≤ _ by decide)]
  dsimp only [Try.f58]
  by_cases hn : l.length = m.length
  · have hn' : (l.length : Int) = m.length := by omega
    simp only [go_sem, hn', bne_self_eq_false]
    refine iter_inv (fun i : Nat => i ≤ l.length) (fun i => { t := upd (upd (upd (e0) 5 (.int .i64 i)) 1 (.slc false 1 (m.map IL))) 0 (.slc false 1 (l.map IL)), b := n0, o := [], r := #[ResultVar.tmp 4], f := 58, n := 27 }) (fun i => some (.bool (veqs ((l.drop i).map IL) ((m.drop i).map IL)), [])) (fun i => l.length - i) ?_ 0 (Nat.zero_le _)
    intro i hi ih
    by_cases h : i < l.length
    · have h1 : (i : Int) < l.length := by omega
      have h1' : (i : Int) < m.length := by omega
      have h' : i < m.length := by omega
      have w := wrap_nat (n := i) (by omega)
      have hx := hc l[i] (List.getElem_mem h) m[i]
      rw [List.drop_eq_getElem_cons h, List.drop_eq_getElem_cons h', List.map_cons, List.map_cons, veqs_cons]
      generalize veq (IL l[i]) (IL m[i]) = r at hx ⊢
      simp only [Rx.enc_eq, Vals.enc, Mor.enc, Sta.enc, Con.enc, Line.enc, Ans.enc, Prob.enc, Prog.enc, Ses.enc, Equ.enc, Mon.enc, Frm.enc, Mov.enc, Stp.enc, Dfa.enc, IL, I, B] at hx
      simp only [go_sem, h1, h1']
      rw [q_drawn]
      rotate_left
      · kernel_rfl
      simp only [go_sem, h1, h1', w, getD_map h, getD_map h', hx]
      cases r
      · simp only [go_sem, Bool.not_false, Bool.false_and]
      · simp only [go_sem, w, Bool.not_true, Bool.true_and]
        exact ih (i + 1) (by omega) (by omega)
    · have h1 : ¬ (i : Int) < l.length := by omega
      have h1' : ¬ (i : Int) < m.length := by omega
      have e1 : l.drop i = [] := List.drop_eq_nil_of_le (by omega)
      have e2 : m.drop i = [] := List.drop_eq_nil_of_le (by omega)
      simp only [go_sem, h1, h1', e1, e2, List.map_nil, veqs]
  · have hn' : ((l.length : Int) != m.length) = true := by simp; omega
    simp only [go_sem, hn']
    rw [veqs_ne (by simpa using hn)]

theorem r12 (x y : Dfa) (hs : szT x.enc ≤ 1048576) : run EE 12 [x.enc, y.enc] [] = some (.bool (veq x.enc y.enc), []) := by
  have hs' := hs
  simp only [Rx.enc_eq, Vals.enc, Mor.enc, Sta.enc, Con.enc, Line.enc, Ans.enc, Prob.enc, Prog.enc, Ses.enc, Equ.enc, Mon.enc, Frm.enc, Mov.enc, Stp.enc, Dfa.enc, IL, I, B, szT, szL, List.length_map] at hs'
  have q0 := r57 x.accept y.accept (by simp only [Rx.enc_eq, Vals.enc, Mor.enc, Sta.enc, Con.enc, Line.enc, Ans.enc, Prob.enc, Prog.enc, Ses.enc, Equ.enc, Mon.enc, Frm.enc, Mov.enc, Stp.enc, Dfa.enc, szT, szL, List.length_map] at hs; omega)
  try simp only [Rx.enc_eq, Vals.enc, Mor.enc, Sta.enc, Con.enc, Line.enc, Ans.enc, Prob.enc, Prog.enc, Ses.enc, Equ.enc, Mon.enc, Frm.enc, Mov.enc, Stp.enc, Dfa.enc, IL, I, B] at q0
  have q1 := r58 x.next y.next (by simp only [Rx.enc_eq, Vals.enc, Mor.enc, Sta.enc, Con.enc, Line.enc, Ans.enc, Prob.enc, Prog.enc, Ses.enc, Equ.enc, Mon.enc, Frm.enc, Mov.enc, Stp.enc, Dfa.enc, szT, szL, List.length_map] at hs; omega) (fun z hz v => (r40 z v (by have := szL_mem (f := IL) hz; simp only [IL, szT, List.length_map] at this; simp only [Rx.enc_eq, Vals.enc, Mor.enc, Sta.enc, Con.enc, Line.enc, Ans.enc, Prob.enc, Prog.enc, Ses.enc, Equ.enc, Mon.enc, Frm.enc, Mov.enc, Stp.enc, Dfa.enc, szT, szL, List.length_map] at hs; omega)).trans (by simp only [IL, veq]))
  try simp only [Rx.enc_eq, Vals.enc, Mor.enc, Sta.enc, Con.enc, Line.enc, Ans.enc, Prob.enc, Prog.enc, Ses.enc, Equ.enc, Mon.enc, Frm.enc, Mov.enc, Stp.enc, Dfa.enc, IL, I, B] at q1
  rw [run_eq EE 12 _ _ Try.func12 (by decide +kernel) rfl (show 2 ≤ _ by decide)]
  dsimp only [Try.f12]
  simp only [go_sem, condL_b, bne, q0, q1, veq, veqs]
  generalize (veqs (x.accept.map B) (y.accept.map B)) = b0
  generalize (veqs (x.next.map IL) (y.next.map IL)) = b1
  cases b0 <;> cases b1 <;> rfl
end Go.Ev
namespace Go.Ev
open Go Go.Proofs
set_option maxRecDepth 10000
set_option linter.unusedVariables false
set_option linter.unusedSimpArgs false
theorem r17 (x : Mor) (ho : okV x.enc) (left : Int) (h0 : 0 ≤ left) (h1 : left ≤ 1048576) : run EE 17 [x.enc, .int .i64 left] [] = some (.int .i64 (szR x.enc left), []) := by
  have ho' := ho
  simp only [Rx.enc_eq, Vals.enc, Mor.enc, Sta.enc, Con.enc, Line.enc, Ans.enc, Prob.enc, Prog.enc, Ses.enc, Equ.enc, Mon.enc, Frm.enc, Mov.enc, Stp.enc, Dfa.enc, IL, I, B, okV, okL, and_true, true_and, List.length_map] at ho'
  rw [run_eq EE 17 _ _ Try.func17 (by decide +kernel) rfl (show 2 ≤ _ by decide)]
  dsimp only [Try.f17]
  have e : szR x.enc left = leftOf (szT x.enc) left := rfl
  rw [e]
  simp only [Rx.enc_eq, Vals.enc, Mor.enc, Sta.enc, Con.enc, Line.enc, Ans.enc, Prob.enc, Prog.enc, Ses.enc, Equ.enc, Mon.enc, Frm.enc, Mov.enc, Stp.enc, Dfa.enc, IL, I, B, szT, szL, List.length_map]
  have w1 := wrap_in (n := left - ((x.a).size : Int)) (by omega) (by omega)
  simp only [go_sem, w1]
  refine condL_dec (fun c1 => ?_) (fun c1 => ?_)
  · simp only [go_sem]
    rw [leftOf_neg (by omega)]
  have w2 := wrap_in (n := left - ((x.a).size : Int) - ((x.b).size : Int)) (by omega) (by omega)
  simp only [go_sem, w2]
  refine condL_dec (fun c2 => ?_) (fun c2 => ?_)
  · simp only [go_sem]
    rw [leftOf_neg (by omega)]
  have w3 := wrap_in (n := left - ((x.a).size : Int) - ((x.b).size : Int) - ((x.c).size : Int)) (by omega) (by omega)
  simp only [go_sem, w3]
  refine condL_dec (fun c3 => ?_) (fun c3 => ?_)
  · simp only [go_sem]
    rw [leftOf_neg (by omega)]
  simp only [go_sem]
  rw [leftOf_pos (by omega)]
  refine congrArg some (congrArg (·, []) (congrArg (V.int .i64) ?_))
  omega

theorem r19 (x : Mor) (hs : szT x.enc ≤ 1048576) : run EE 19 [x.enc] [] = some (x.enc, []) := by
  have hs' := hs
  simp only [Rx.enc_eq, Vals.enc, Mor.enc, Sta.enc, Con.enc, Line.enc, Ans.enc, Prob.enc, Prog.enc, Ses.enc, Equ.enc, Mon.enc, Frm.enc, Mov.enc, Stp.enc, Dfa.enc, IL, I, B, szT, szL, List.length_map] at hs'
  rw [run_eq EE 19 _ _ Try.func19 (by decide +kernel) rfl (show 1 ≤ _ by decide)]
  dsimp only [Try.f19]
  simp only [go_sem]
end Go.Ev
namespace Go.Ev
open Go Go.Proofs
set_option maxRecDepth 10000
set_option maxHeartbeats 4000000
set_option linter.unusedVariables false
set_option linter.unusedSimpArgs false

theorem pi_ways (x : Dfa) (m : Mor) : ∃ ya yn A L g, preR x m = .tup [.agg [ya, yn], .bool g] ∧ TwoWays ya yn A L ∧ szT (Dfa.mk A L).enc ≤ 1048576 ∧ 1 + A.length + (L.map List.length).sum ≤ 1048577 ∧ L.length ≤ 1048576 := by
  unfold preR
  by_cases hv : validD x = true ∧ isMor m = true
  · rw [if_pos hv]
    obtain ⟨hx, hd⟩ := validD_dn hv.1
    have hr := preD_val hd m
    obtain ⟨ya, yn, A, L, e, h⟩ := ways_dn (quotS_val hr (s := 0) hr.pos)
    rw [e]
    exact ⟨ya, yn, A, L, true, rfl, h⟩
  · rw [if_neg hv]
    exact ⟨_, _, [], [], false, rfl, .inr ⟨rfl, rfl, rfl, rfl⟩, by decide, by decide, by decide⟩
section
attribute [-go_sem] uMakes peekC_aref
theorem law5 (x : Dfa) (m : Mor) (ox : okV x.enc) (om : okV m.enc) : run EE 5 [x.enc, m.enc] [] = some (.bool true, []) := by
  have z1 := r8 x ox 1048576 (by omega) (by omega)
  unfold szR at z1
  generalize hn1 : szT x.enc = n1 at z1
  obtain ⟨A, L⟩ := x
  rw [enc_mk] at z1 ⊢
  rw [run_eq EE 5 _ _ Try.func5 (by decide +kernel) rfl (show 2 ≤ _ by decide)]
  dsimp only [Try.f5]
  simp only [Mor.enc]
  simp only [go_sem, z1]
  refine condL_dec (fun c1 => ?_) (fun c1 => ?_)
  · simp only [go_sem]
  obtain ⟨e1, b1⟩ := leftOf_ge c1
  have z2 := r17 m om (1048576 - (n1 : Int)) (by omega) (by omega)
  unfold szR at z2
  generalize hn2 : szT m.enc = n2 at z2
  simp only [Mor.enc] at z2
  simp only [go_sem, e1, z2]
  refine condL_dec (fun c2 => ?_) (fun c2 => ?_)
  · simp only [go_sem]
  obtain ⟨e2, b2⟩ := leftOf_ge c2
  have hn1' := hn1
  have hn2' := hn2
  simp only [Dfa.enc, szT, szL, szL_bools, szL_sum, List.length_map] at hn1'
  simp only [Mor.enc, szT, szL] at hn2'
  have hS : ∀ z ∈ L, z.length ≤ 1048576 := fun z hz => by have := szL_mem (f := IL) hz; simp only [IL, szT, List.length_map, szL_sum] at this; omega
  have tx := r10 ⟨A, L⟩ (by show A.length ≤ _; omega) (by show L.length ≤ _; omega) hS
  have tm := r19 m (by omega)
  have sp := r18 ⟨A, L⟩ m (by show A.length ≤ _; omega) (by show L.length ≤ _; omega) hS (by omega) (by omega) (by omega)
  have im := r20 ⟨A, L⟩ m (by show A.length ≤ _; omega) (by show L.length ≤ _; omega) hS (by omega) (by omega) (by omega)
  have ex := r12 ⟨A, L⟩ ⟨A, L⟩ (by omega)
  rw [veq_refl, enc_mk] at ex
  obtain ⟨ya, yn, YA, YL, g, hR, hw, hz, hy1, hy2⟩ := pi_ways ⟨A, L⟩ m
  have ey := r12 ⟨YA, YL⟩ ⟨YA, YL⟩ hz
  rw [veq_refl, enc_mk] at ey
  rw [enc_mk, hR] at sp im
  rw [enc_mk, show Dfa.encU ⟨A, L⟩ = .agg [.uq 1 (A.map B), .uq 1 (L.map UR)] from rfl] at tx
  simp only [Mor.enc] at tm sp im
  have mX := makes_uq A L
  have mdX : ∀ {b : Nat → Option Ob} {u : Nat}, DfaM b u A L → _ := fun h => markBoth h 1 (by omega) (by omega)
  have mdY : ∀ {b : Nat → Option Ob} {u : Nat}, DfaM b u YA YL → _ := fun h => markBoth h 1 (by omega) (by omega)
  clear hS hn1 hn1' hn2 hn2' hR hz
  rcases hw with ⟨rfl, rfl, nYA, nYL⟩ | ⟨rfl, rfl, rfl, rfl⟩
  · have fYA : (YA.length = 0) = False := eq_false fun e => nYA (List.eq_nil_of_length_eq_zero e)
    have fYL : (YL.length = 0) = False := eq_false fun e => nYL (List.eq_nil_of_length_eq_zero e)
    have mY := makes_uq YA YL
    rcases emp A with ⟨rfl, fA⟩ | ⟨nA, fA⟩ <;> rcases emp L with ⟨rfl, fL⟩ | ⟨nL, fL⟩
    all_goals
      try simp only [List.map_nil] at tx sp im ex ey mY mX
      simp only [go_sem, e1, e2]
      rw [q_drawn]; rotate_left; · kernel_rfl
      simp only [go_sem, still, tx, tm, sp]
      generalize hb0 : (upd (upd (upd n0 2 _) 3 _) 6 _ : Nat → Option Ob) = b0
      have w0 : ∀ u, 6 < u → NoM b0 u := fun u hu => hb0 ▸ (((NoM.n0 u).st (by omega) _).st (by omega) _).st hu _
      have q2 := congrFun hb0.symm 2
      have q3 := congrFun hb0.symm 3
      have q6 := congrFun hb0.symm 6
      have q8 := congrFun hb0.symm 8
      have q9 := congrFun hb0.symm 9
      have q14 := congrFun hb0.symm 14
      simp only [go_sem] at q2 q3 q6 q8 q9 q14
      clear hb0
      obtain ⟨b1, mk1, y1, o1⟩ := mY b0 493 (w0 _ (by decide))
      try simp only [rowT, fYA, fYL, if_true, if_false, List.map_nil, List.length_nil, eq_self] at mk1
      rw [mk1]
      clear mk1
      replace q2 := o1.lo (by decide) q2
      replace q3 := o1.lo (by decide) q3
      replace q6 := o1.lo (by decide) q6
      replace q8 := o1.lo (by decide) q8
      replace q9 := o1.lo (by decide) q9
      replace q14 := o1.lo (by decide) q14
      have w1 : ∀ u, 600 < u → u < 900000 → NoM b1 u := fun u h1 h2 => (w0 u (by omega)).only o1 h2 (by decide) (by omega)
      clear w0 o1
      simp only [go_sem, still, q6, q3, q2, q8, tx]
      generalize hb2 : (upd (upd b1 6 _) 8 _ : Nat → Option Ob) = b2
      have w2 : ∀ u, 600 < u → u < 900000 → NoM b2 u := fun u h1 h2 => hb2 ▸ ((w1 u h1 h2).st (by omega) _).st (by omega) _
      replace y1 := hb2 ▸ (y1.st (by decide) _).st (by decide) _
      replace q2 := (congrFun hb2.symm 2).trans ((if_neg (by decide)).trans ((if_neg (by decide)).trans q2))
      replace q3 := (congrFun hb2.symm 3).trans ((if_neg (by decide)).trans ((if_neg (by decide)).trans q3))
      replace q9 := (congrFun hb2.symm 9).trans ((if_neg (by decide)).trans ((if_neg (by decide)).trans q9))
      replace q14 := (congrFun hb2.symm 14).trans ((if_neg (by decide)).trans ((if_neg (by decide)).trans q14))
      replace q6 := congrFun hb2.symm 6
      replace q8 := congrFun hb2.symm 8
      simp only [go_sem] at q6 q8
      clear hb2 w1
      obtain ⟨b3, mk3, x3, o3⟩ := mX b2 621 (w2 _ (by decide) (by decide))
      try simp only [rowT, fA, fL, if_true, if_false, List.map_nil, List.length_nil, eq_self] at mk3
      rw [mk3]
      clear mk3
      replace q2 := o3.lo (by decide) q2
      replace q3 := o3.lo (by decide) q3
      replace q6 := o3.lo (by decide) q6
      replace q8 := o3.lo (by decide) q8
      replace q9 := o3.lo (by decide) q9
      replace q14 := o3.lo (by decide) q14
      replace y1 := y1.only o3 (by decide) (by decide) (by decide)
      have w3 : ∀ u, 631 < u → u < 900000 → NoM b3 u := fun u h1 h2 => (w2 u (by omega) h2).only o3 h2 (by decide) (by omega)
      clear w2 o3
      simp only [go_sem, q8]
      generalize hb4 : (upd b3 8 _ : Nat → Option Ob) = b4
      have w4 : ∀ u, 631 < u → u < 900000 → NoM b4 u := fun u h1 h2 => hb4 ▸ (w3 u h1 h2).st (by omega) _
      replace y1 := hb4 ▸ y1.st (by decide) _
      replace x3 := hb4 ▸ x3.st (by decide) _
      replace q2 := (congrFun hb4.symm 2).trans ((if_neg (by decide)).trans q2)
      replace q3 := (congrFun hb4.symm 3).trans ((if_neg (by decide)).trans q3)
      replace q6 := (congrFun hb4.symm 6).trans ((if_neg (by decide)).trans q6)
      replace q9 := (congrFun hb4.symm 9).trans ((if_neg (by decide)).trans q9)
      replace q14 := (congrFun hb4.symm 14).trans ((if_neg (by decide)).trans q14)
      replace q8 := congrFun hb4.symm 8
      simp only [go_sem] at q8
      clear hb4 w3
      have px1 := fun t r f n => (peeked x3 t r f n).1
      have px2 := fun t r f n => (peeked x3 t r f n).2
      have pu1 := fun c t r f n => (peeked (x3.st (show 9 < 621 by decide) c) t r f n).1
      have pu2 := fun c t r f n => (peeked (x3.st (show 9 < 621 by decide) c) t r f n).2
      simp only [rowR, fA, fL, fYA, fYL, if_true, if_false, List.map_nil, List.length_nil, eq_self] at px1 px2 pu1 pu2
      rw [q_drawn]; rotate_left; · kernel_rfl
      simp only [go_sem, still, px1, px2, pu1, pu2, tm, im, free_B, free_UR, q2, q3, q6, q8, q9]
      clear px1 px2 pu1 pu2
      generalize hb5 : (upd b4 9 _ : Nat → Option Ob) = b5
      have w5 : ∀ u, 631 < u → u < 900000 → NoM b5 u := fun u h1 h2 => hb5 ▸ (w4 u h1 h2).st (by omega) _
      replace y1 := hb5 ▸ y1.st (by decide) _
      replace x3 := hb5 ▸ x3.st (by decide) _
      replace q2 := (congrFun hb5.symm 2).trans ((if_neg (by decide)).trans q2)
      replace q3 := (congrFun hb5.symm 3).trans ((if_neg (by decide)).trans q3)
      replace q6 := (congrFun hb5.symm 6).trans ((if_neg (by decide)).trans q6)
      replace q8 := (congrFun hb5.symm 8).trans ((if_neg (by decide)).trans q8)
      replace q14 := (congrFun hb5.symm 14).trans ((if_neg (by decide)).trans q14)
      replace q9 := congrFun hb5.symm 9
      simp only [go_sem] at q9
      clear hb5 w4
      obtain ⟨b6, mk6, g6, o6⟩ := mY b5 685 (w5 _ (by decide) (by decide))
      try simp only [rowT, fYA, fYL, if_true, if_false, List.map_nil, List.length_nil, eq_self] at mk6
      rw [mk6]
      clear mk6
      replace q2 := o6.lo (by decide) q2
      replace q3 := o6.lo (by decide) q3
      replace q6 := o6.lo (by decide) q6
      replace q8 := o6.lo (by decide) q8
      replace q9 := o6.lo (by decide) q9
      replace q14 := o6.lo (by decide) q14
      replace y1 := y1.only o6 (by decide) (by decide) (by decide)
      replace x3 := x3.only o6 (by decide) (by decide) (by decide)
      have w6 : ∀ u, 695 < u → u < 900000 → NoM b6 u := fun u h1 h2 => (w5 u (by omega) h2).only o6 h2 (by decide) (by omega)
      clear w5 o6
      have pu1 := fun c t r f n => (peeked (x3.st (show 9 < 621 by decide) c) t r f n).1
      have pu2 := fun c t r f n => (peeked (x3.st (show 9 < 621 by decide) c) t r f n).2
      simp only [rowR, fA, fL, fYA, fYL, if_true, if_false, List.map_nil, List.length_nil, eq_self] at pu1 pu2
      simp only [go_sem, still, pu1, pu2, tm, im, free_B, free_UR, q9, q6, q8, q3, q2]
      clear pu1 pu2
      generalize hb7 : (upd b6 9 _ : Nat → Option Ob) = b7
      have w7 : ∀ u, 695 < u → u < 900000 → NoM b7 u := fun u h1 h2 => hb7 ▸ (w6 u h1 h2).st (by omega) _
      replace y1 := hb7 ▸ y1.st (by decide) _
      replace x3 := hb7 ▸ x3.st (by decide) _
      replace g6 := hb7 ▸ g6.st (by decide) _
      replace q2 := (congrFun hb7.symm 2).trans ((if_neg (by decide)).trans q2)
      replace q3 := (congrFun hb7.symm 3).trans ((if_neg (by decide)).trans q3)
      replace q6 := (congrFun hb7.symm 6).trans ((if_neg (by decide)).trans q6)
      replace q8 := (congrFun hb7.symm 8).trans ((if_neg (by decide)).trans q8)
      replace q14 := (congrFun hb7.symm 14).trans ((if_neg (by decide)).trans q14)
      replace q9 := congrFun hb7.symm 9
      simp only [go_sem] at q9
      clear hb7 w6
      have px1 := fun t r f n => (peeked x3 t r f n).1
      have px2 := fun t r f n => (peeked x3 t r f n).2
      have py1 := fun t r f n => (peeked y1 t r f n).1
      have py2 := fun t r f n => (peeked y1 t r f n).2
      have pg1 := fun t r f n => (peeked g6 t r f n).1
      have pg2 := fun t r f n => (peeked g6 t r f n).2
      simp only [rowR, fA, fL, fYA, fYL, if_true, if_false, List.map_nil, List.length_nil, eq_self] at px1 px2 py1 py2 pg1 pg2
      simp only [go_sem, px1, px2, py1, py2, pg1, pg2, ey, q2, q6, q8, q9]
      rw [q_drs]; rotate_left; · kernel_rfl
      simp only [go_sem, px1, px2, py1, py2, pg1, pg2, ex, ey, tx, q2, q6, q8, q9]
      clear px1 px2 py1 py2 pg1 pg2
      obtain ⟨b8, n8, em8, eh8, k8, o8⟩ := mdX x3
      simp only [rowR, fA, fL, Int.natCast_one, if_true, if_false, List.map_nil, List.length_nil, eq_self] at em8 eh8
      have nn8 : ((n8 : Int) < 0) = False := eq_false (by omega)
      replace q2 := o8.lo (by decide) q2
      replace q3 := o8.lo (by decide) q3
      replace q6 := o8.lo (by decide) q6
      replace q8 := o8.lo (by decide) q8
      replace q9 := o8.lo (by decide) q9
      replace q14 := o8.lo (by decide) q14
      replace y1 := y1.only o8 (by decide) (by decide) (by decide)
      replace g6 := g6.only o8 (by decide) (by decide) (by decide)
      have w8 : ∀ u, 695 < u → u < 900000 → NoM b8 u := fun u h1 h2 => (w7 u (by omega) h2).only o8 h2 (by decide) (by omega)
      clear w7 o8
      have py1 := fun t r f n => (peeked y1 t r f n).1
      have py2 := fun t r f n => (peeked y1 t r f n).2
      have pg1 := fun t r f n => (peeked g6 t r f n).1
      have pg2 := fun t r f n => (peeked g6 t r f n).2
      simp only [rowR, fA, fL, fYA, fYL, if_true, if_false, List.map_nil, List.length_nil, eq_self] at py1 py2 pg1 pg2
      simp only [go_sem, em8, nn8, py1, py2, pg1, pg2, ex, ey, tx, q2, q6, q8, q9]
      clear py1 py2 pg1 pg2
      obtain ⟨b9, n9, em9, eh9, k9, o9⟩ := mdY g6
      simp only [rowR, fYA, fYL, Int.natCast_one, if_true, if_false, List.map_nil, List.length_nil, eq_self] at em9 eh9
      have nn9 : ((n9 : Int) < 0) = False := eq_false (by omega)
      replace q2 := o9.lo (by decide) q2
      replace q3 := o9.lo (by decide) q3
      replace q6 := o9.lo (by decide) q6
      replace q8 := o9.lo (by decide) q8
      replace q9 := o9.lo (by decide) q9
      replace q14 := o9.lo (by decide) q14
      replace y1 := y1.only o9 (by decide) (by decide) (by decide)
      have w9 : ∀ u, 695 < u → u < 900000 → NoM b9 u := fun u h1 h2 => (w8 u (by omega) h2).only o9 h2 (by decide) (by omega)
      clear w8 o9
      have hk9 := eh9 _ k9
      simp only [go_sem, em9, nn9, bne_self_eq_false, hk9, q2, q6, q8, q9, q14]
      rw [q_drawn]; rotate_left; · kernel_rfl
      simp only [go_sem, still, tx, tm, im, q2, q3, q6, q8, q9, q14]
      generalize hb10 : (upd b9 14 _ : Nat → Option Ob) = b10
      have w10 : ∀ u, 695 < u → u < 900000 → NoM b10 u := fun u h1 h2 => hb10 ▸ (w9 u h1 h2).st (by omega) _
      replace y1 := hb10 ▸ y1.st (by decide) _
      replace k9 := hb10 ▸ k9.st (by decide) _
      replace q2 := (congrFun hb10.symm 2).trans ((if_neg (by decide)).trans q2)
      replace q3 := (congrFun hb10.symm 3).trans ((if_neg (by decide)).trans q3)
      replace q6 := (congrFun hb10.symm 6).trans ((if_neg (by decide)).trans q6)
      replace q8 := (congrFun hb10.symm 8).trans ((if_neg (by decide)).trans q8)
      replace q9 := (congrFun hb10.symm 9).trans ((if_neg (by decide)).trans q9)
      replace q14 := congrFun hb10.symm 14
      simp only [go_sem] at q14
      clear hb10 w9
      obtain ⟨b11, mk11, h11, o11⟩ := mY b10 1005 (w10 _ (by decide) (by decide))
      try simp only [rowT, fYA, fYL, if_true, if_false, List.map_nil, List.length_nil, eq_self] at mk11
      rw [mk11]
      clear mk11
      replace q2 := o11.lo (by decide) q2
      replace q3 := o11.lo (by decide) q3
      replace q6 := o11.lo (by decide) q6
      replace q8 := o11.lo (by decide) q8
      replace q9 := o11.lo (by decide) q9
      replace q14 := o11.lo (by decide) q14
      replace y1 := y1.only o11 (by decide) (by decide) (by decide)
      replace k9 := k9.only o11 (by decide) (by decide) (by decide)
      have w11 : ∀ u, 1015 < u → u < 900000 → NoM b11 u := fun u h1 h2 => (w10 u (by omega) h2).only o11 h2 (by decide) (by omega)
      clear w10 o11
      simp only [go_sem, still, q2, q3, q6, q8, q9, q14]
      generalize hb12 : (upd b11 14 _ : Nat → Option Ob) = b12
      have w12 : ∀ u, 1015 < u → u < 900000 → NoM b12 u := fun u h1 h2 => hb12 ▸ (w11 u h1 h2).st (by omega) _
      replace y1 := hb12 ▸ y1.st (by decide) _
      replace k9 := hb12 ▸ k9.st (by decide) _
      replace h11 := hb12 ▸ h11.st (by decide) _
      replace q2 := (congrFun hb12.symm 2).trans ((if_neg (by decide)).trans q2)
      replace q3 := (congrFun hb12.symm 3).trans ((if_neg (by decide)).trans q3)
      replace q6 := (congrFun hb12.symm 6).trans ((if_neg (by decide)).trans q6)
      replace q8 := (congrFun hb12.symm 8).trans ((if_neg (by decide)).trans q8)
      replace q9 := (congrFun hb12.symm 9).trans ((if_neg (by decide)).trans q9)
      replace q14 := congrFun hb12.symm 14
      simp only [go_sem] at q14
      clear hb12 w11
      have py1 := fun t r f n => (peeked y1 t r f n).1
      have py2 := fun t r f n => (peeked y1 t r f n).2
      have pg1 := fun t r f n => (peeked h11 t r f n).1
      have pg2 := fun t r f n => (peeked h11 t r f n).2
      simp only [rowR, fA, fL, fYA, fYL, if_true, if_false, List.map_nil, List.length_nil, eq_self] at py1 py2 pg1 pg2
      have hk12 := eh9 _ k9
      simp only [go_sem, hk12, nn9, bne_self_eq_false, py1, py2, pg1, pg2, ex, ey, tx, q2, q3, q6, q8, q9, q14]
  · have fYA : (([] : List Bool).length = 0) = True := eq_true rfl
    have fYL : (([] : List (List Int)).length = 0) = True := eq_true rfl
    have mY := makes_no
    rcases emp A with ⟨rfl, fA⟩ | ⟨nA, fA⟩ <;> rcases emp L with ⟨rfl, fL⟩ | ⟨nL, fL⟩
    all_goals
      try simp only [List.map_nil] at tx sp im ex ey mY mX
      simp only [go_sem, e1, e2]
      rw [q_drawn]; rotate_left; · kernel_rfl
      simp only [go_sem, still, tx, tm, sp]
      generalize hb0 : (upd (upd (upd n0 2 _) 3 _) 6 _ : Nat → Option Ob) = b0
      have w0 : ∀ u, 6 < u → NoM b0 u := fun u hu => hb0 ▸ (((NoM.n0 u).st (by omega) _).st (by omega) _).st hu _
      have q2 := congrFun hb0.symm 2
      have q3 := congrFun hb0.symm 3
      have q6 := congrFun hb0.symm 6
      have q8 := congrFun hb0.symm 8
      have q9 := congrFun hb0.symm 9
      have q14 := congrFun hb0.symm 14
      simp only [go_sem] at q2 q3 q6 q8 q9 q14
      clear hb0
      obtain ⟨b1, mk1, y1, o1⟩ := mY b0 493 (w0 _ (by decide))
      try simp only [rowT, fYA, fYL, if_true, if_false, List.map_nil, List.length_nil, eq_self] at mk1
      rw [mk1]
      clear mk1
      replace q2 := o1.lo (by decide) q2
      replace q3 := o1.lo (by decide) q3
      replace q6 := o1.lo (by decide) q6
      replace q8 := o1.lo (by decide) q8
      replace q9 := o1.lo (by decide) q9
      replace q14 := o1.lo (by decide) q14
      have w1 : ∀ u, 600 < u → u < 900000 → NoM b1 u := fun u h1 h2 => (w0 u (by omega)).only o1 h2 (by decide) (by omega)
      clear w0 o1
      simp only [go_sem, still, q6, q3, q2, q8, tx]
      generalize hb2 : (upd (upd b1 6 _) 8 _ : Nat → Option Ob) = b2
      have w2 : ∀ u, 600 < u → u < 900000 → NoM b2 u := fun u h1 h2 => hb2 ▸ ((w1 u h1 h2).st (by omega) _).st (by omega) _
      replace y1 := hb2 ▸ (y1.st (by decide) _).st (by decide) _
      replace q2 := (congrFun hb2.symm 2).trans ((if_neg (by decide)).trans ((if_neg (by decide)).trans q2))
      replace q3 := (congrFun hb2.symm 3).trans ((if_neg (by decide)).trans ((if_neg (by decide)).trans q3))
      replace q9 := (congrFun hb2.symm 9).trans ((if_neg (by decide)).trans ((if_neg (by decide)).trans q9))
      replace q14 := (congrFun hb2.symm 14).trans ((if_neg (by decide)).trans ((if_neg (by decide)).trans q14))
      replace q6 := congrFun hb2.symm 6
      replace q8 := congrFun hb2.symm 8
      simp only [go_sem] at q6 q8
      clear hb2 w1
      obtain ⟨b3, mk3, x3, o3⟩ := mX b2 621 (w2 _ (by decide) (by decide))
      try simp only [rowT, fA, fL, if_true, if_false, List.map_nil, List.length_nil, eq_self] at mk3
      rw [mk3]
      clear mk3
      replace q2 := o3.lo (by decide) q2
      replace q3 := o3.lo (by decide) q3
      replace q6 := o3.lo (by decide) q6
      replace q8 := o3.lo (by decide) q8
      replace q9 := o3.lo (by decide) q9
      replace q14 := o3.lo (by decide) q14
      replace y1 := y1.only o3 (by decide) (by decide) (by decide)
      have w3 : ∀ u, 631 < u → u < 900000 → NoM b3 u := fun u h1 h2 => (w2 u (by omega) h2).only o3 h2 (by decide) (by omega)
      clear w2 o3
      simp only [go_sem, q8]
      generalize hb4 : (upd b3 8 _ : Nat → Option Ob) = b4
      have w4 : ∀ u, 631 < u → u < 900000 → NoM b4 u := fun u h1 h2 => hb4 ▸ (w3 u h1 h2).st (by omega) _
      replace y1 := hb4 ▸ y1.st (by decide) _
      replace x3 := hb4 ▸ x3.st (by decide) _
      replace q2 := (congrFun hb4.symm 2).trans ((if_neg (by decide)).trans q2)
      replace q3 := (congrFun hb4.symm 3).trans ((if_neg (by decide)).trans q3)
      replace q6 := (congrFun hb4.symm 6).trans ((if_neg (by decide)).trans q6)
      replace q9 := (congrFun hb4.symm 9).trans ((if_neg (by decide)).trans q9)
      replace q14 := (congrFun hb4.symm 14).trans ((if_neg (by decide)).trans q14)
      replace q8 := congrFun hb4.symm 8
      simp only [go_sem] at q8
      clear hb4 w3
      have px1 := fun t r f n => (peeked x3 t r f n).1
      have px2 := fun t r f n => (peeked x3 t r f n).2
      have pu1 := fun c t r f n => (peeked (x3.st (show 9 < 621 by decide) c) t r f n).1
      have pu2 := fun c t r f n => (peeked (x3.st (show 9 < 621 by decide) c) t r f n).2
      simp only [rowR, fA, fL, fYA, fYL, if_true, if_false, List.map_nil, List.length_nil, eq_self] at px1 px2 pu1 pu2
      rw [q_drawn]; rotate_left; · kernel_rfl
      simp only [go_sem, still, px1, px2, pu1, pu2, tm, im, free_B, free_UR, q2, q3, q6, q8, q9]
      clear px1 px2 pu1 pu2
      generalize hb5 : (upd b4 9 _ : Nat → Option Ob) = b5
      have w5 : ∀ u, 631 < u → u < 900000 → NoM b5 u := fun u h1 h2 => hb5 ▸ (w4 u h1 h2).st (by omega) _
      replace y1 := hb5 ▸ y1.st (by decide) _
      replace x3 := hb5 ▸ x3.st (by decide) _
      replace q2 := (congrFun hb5.symm 2).trans ((if_neg (by decide)).trans q2)
      replace q3 := (congrFun hb5.symm 3).trans ((if_neg (by decide)).trans q3)
      replace q6 := (congrFun hb5.symm 6).trans ((if_neg (by decide)).trans q6)
      replace q8 := (congrFun hb5.symm 8).trans ((if_neg (by decide)).trans q8)
      replace q14 := (congrFun hb5.symm 14).trans ((if_neg (by decide)).trans q14)
      replace q9 := congrFun hb5.symm 9
      simp only [go_sem] at q9
      clear hb5 w4
      obtain ⟨b6, mk6, g6, o6⟩ := mY b5 685 (w5 _ (by decide) (by decide))
      try simp only [rowT, fYA, fYL, if_true, if_false, List.map_nil, List.length_nil, eq_self] at mk6
      rw [mk6]
      clear mk6
      replace q2 := o6.lo (by decide) q2
      replace q3 := o6.lo (by decide) q3
      replace q6 := o6.lo (by decide) q6
      replace q8 := o6.lo (by decide) q8
      replace q9 := o6.lo (by decide) q9
      replace q14 := o6.lo (by decide) q14
      replace y1 := y1.only o6 (by decide) (by decide) (by decide)
      replace x3 := x3.only o6 (by decide) (by decide) (by decide)
      have w6 : ∀ u, 695 < u → u < 900000 → NoM b6 u := fun u h1 h2 => (w5 u (by omega) h2).only o6 h2 (by decide) (by omega)
      clear w5 o6
      have pu1 := fun c t r f n => (peeked (x3.st (show 9 < 621 by decide) c) t r f n).1
      have pu2 := fun c t r f n => (peeked (x3.st (show 9 < 621 by decide) c) t r f n).2
      simp only [rowR, fA, fL, fYA, fYL, if_true, if_false, List.map_nil, List.length_nil, eq_self] at pu1 pu2
      simp only [go_sem, still, pu1, pu2, tm, im, free_B, free_UR, q9, q6, q8, q3, q2]
      clear pu1 pu2
      generalize hb7 : (upd b6 9 _ : Nat → Option Ob) = b7
      have w7 : ∀ u, 695 < u → u < 900000 → NoM b7 u := fun u h1 h2 => hb7 ▸ (w6 u h1 h2).st (by omega) _
      replace y1 := hb7 ▸ y1.st (by decide) _
      replace x3 := hb7 ▸ x3.st (by decide) _
      replace g6 := hb7 ▸ g6.st (by decide) _
      replace q2 := (congrFun hb7.symm 2).trans ((if_neg (by decide)).trans q2)
      replace q3 := (congrFun hb7.symm 3).trans ((if_neg (by decide)).trans q3)
      replace q6 := (congrFun hb7.symm 6).trans ((if_neg (by decide)).trans q6)
      replace q8 := (congrFun hb7.symm 8).trans ((if_neg (by decide)).trans q8)
      replace q14 := (congrFun hb7.symm 14).trans ((if_neg (by decide)).trans q14)
      replace q9 := congrFun hb7.symm 9
      simp only [go_sem] at q9
      clear hb7 w6
      have px1 := fun t r f n => (peeked x3 t r f n).1
      have px2 := fun t r f n => (peeked x3 t r f n).2
      have py1 := fun t r f n => (peeked y1 t r f n).1
      have py2 := fun t r f n => (peeked y1 t r f n).2
      have pg1 := fun t r f n => (peeked g6 t r f n).1
      have pg2 := fun t r f n => (peeked g6 t r f n).2
      simp only [rowR, fA, fL, fYA, fYL, if_true, if_false, List.map_nil, List.length_nil, eq_self] at px1 px2 py1 py2 pg1 pg2
      simp only [go_sem, px1, px2, py1, py2, pg1, pg2, ey, q2, q6, q8, q9]
      rw [q_drs]; rotate_left; · kernel_rfl
      simp only [go_sem, px1, px2, py1, py2, pg1, pg2, ex, ey, tx, q2, q6, q8, q9]
      clear px1 px2 py1 py2 pg1 pg2
      obtain ⟨b8, n8, em8, eh8, k8, o8⟩ := mdX x3
      simp only [rowR, fA, fL, Int.natCast_one, if_true, if_false, List.map_nil, List.length_nil, eq_self] at em8 eh8
      have nn8 : ((n8 : Int) < 0) = False := eq_false (by omega)
      replace q2 := o8.lo (by decide) q2
      replace q3 := o8.lo (by decide) q3
      replace q6 := o8.lo (by decide) q6
      replace q8 := o8.lo (by decide) q8
      replace q9 := o8.lo (by decide) q9
      replace q14 := o8.lo (by decide) q14
      replace y1 := y1.only o8 (by decide) (by decide) (by decide)
      replace g6 := g6.only o8 (by decide) (by decide) (by decide)
      have w8 : ∀ u, 695 < u → u < 900000 → NoM b8 u := fun u h1 h2 => (w7 u (by omega) h2).only o8 h2 (by decide) (by omega)
      clear w7 o8
      have py1 := fun t r f n => (peeked y1 t r f n).1
      have py2 := fun t r f n => (peeked y1 t r f n).2
      have pg1 := fun t r f n => (peeked g6 t r f n).1
      have pg2 := fun t r f n => (peeked g6 t r f n).2
      simp only [rowR, fA, fL, fYA, fYL, if_true, if_false, List.map_nil, List.length_nil, eq_self] at py1 py2 pg1 pg2
      simp only [go_sem, em8, nn8, py1, py2, pg1, pg2, ex, ey, tx, q2, q6, q8, q9]
      clear py1 py2 pg1 pg2
      obtain ⟨b9, n9, em9, eh9, k9, o9⟩ := mdY g6
      simp only [rowR, fYA, fYL, Int.natCast_one, if_true, if_false, List.map_nil, List.length_nil, eq_self] at em9 eh9
      have nn9 : ((n9 : Int) < 0) = False := eq_false (by omega)
      replace q2 := o9.lo (by decide) q2
      replace q3 := o9.lo (by decide) q3
      replace q6 := o9.lo (by decide) q6
      replace q8 := o9.lo (by decide) q8
      replace q9 := o9.lo (by decide) q9
      replace q14 := o9.lo (by decide) q14
      replace y1 := y1.only o9 (by decide) (by decide) (by decide)
      have w9 : ∀ u, 695 < u → u < 900000 → NoM b9 u := fun u h1 h2 => (w8 u (by omega) h2).only o9 h2 (by decide) (by omega)
      clear w8 o9
      have hk9 := eh9 _ k9
      simp only [go_sem, em9, nn9, bne_self_eq_false, hk9, q2, q6, q8, q9, q14]
      rw [q_drawn]; rotate_left; · kernel_rfl
      simp only [go_sem, still, tx, tm, im, q2, q3, q6, q8, q9, q14]
      generalize hb10 : (upd b9 14 _ : Nat → Option Ob) = b10
      have w10 : ∀ u, 695 < u → u < 900000 → NoM b10 u := fun u h1 h2 => hb10 ▸ (w9 u h1 h2).st (by omega) _
      replace y1 := hb10 ▸ y1.st (by decide) _
      replace k9 := hb10 ▸ k9.st (by decide) _
      replace q2 := (congrFun hb10.symm 2).trans ((if_neg (by decide)).trans q2)
      replace q3 := (congrFun hb10.symm 3).trans ((if_neg (by decide)).trans q3)
      replace q6 := (congrFun hb10.symm 6).trans ((if_neg (by decide)).trans q6)
      replace q8 := (congrFun hb10.symm 8).trans ((if_neg (by decide)).trans q8)
      replace q9 := (congrFun hb10.symm 9).trans ((if_neg (by decide)).trans q9)
      replace q14 := congrFun hb10.symm 14
      simp only [go_sem] at q14
      clear hb10 w9
      obtain ⟨b11, mk11, h11, o11⟩ := mY b10 1005 (w10 _ (by decide) (by decide))
      try simp only [rowT, fYA, fYL, if_true, if_false, List.map_nil, List.length_nil, eq_self] at mk11
      rw [mk11]
      clear mk11
      replace q2 := o11.lo (by decide) q2
      replace q3 := o11.lo (by decide) q3
      replace q6 := o11.lo (by decide) q6
      replace q8 := o11.lo (by decide) q8
      replace q9 := o11.lo (by decide) q9
      replace q14 := o11.lo (by decide) q14
      replace y1 := y1.only o11 (by decide) (by decide) (by decide)
      replace k9 := k9.only o11 (by decide) (by decide) (by decide)
      have w11 : ∀ u, 1015 < u → u < 900000 → NoM b11 u := fun u h1 h2 => (w10 u (by omega) h2).only o11 h2 (by decide) (by omega)
      clear w10 o11
      simp only [go_sem, still, q2, q3, q6, q8, q9, q14]
      generalize hb12 : (upd b11 14 _ : Nat → Option Ob) = b12
      have w12 : ∀ u, 1015 < u → u < 900000 → NoM b12 u := fun u h1 h2 => hb12 ▸ (w11 u h1 h2).st (by omega) _
      replace y1 := hb12 ▸ y1.st (by decide) _
      replace k9 := hb12 ▸ k9.st (by decide) _
      replace h11 := hb12 ▸ h11.st (by decide) _
      replace q2 := (congrFun hb12.symm 2).trans ((if_neg (by decide)).trans q2)
      replace q3 := (congrFun hb12.symm 3).trans ((if_neg (by decide)).trans q3)
      replace q6 := (congrFun hb12.symm 6).trans ((if_neg (by decide)).trans q6)
      replace q8 := (congrFun hb12.symm 8).trans ((if_neg (by decide)).trans q8)
      replace q9 := (congrFun hb12.symm 9).trans ((if_neg (by decide)).trans q9)
      replace q14 := congrFun hb12.symm 14
      simp only [go_sem] at q14
      clear hb12 w11
      have py1 := fun t r f n => (peeked y1 t r f n).1
      have py2 := fun t r f n => (peeked y1 t r f n).2
      have pg1 := fun t r f n => (peeked h11 t r f n).1
      have pg2 := fun t r f n => (peeked h11 t r f n).2
      simp only [rowR, fA, fL, fYA, fYL, if_true, if_false, List.map_nil, List.length_nil, eq_self] at py1 py2 pg1 pg2
      have hk12 := eh9 _ k9
      simp only [go_sem, hk12, nn9, bne_self_eq_false, py1, py2, pg1, pg2, ex, ey, tx, q2, q3, q6, q8, q9, q14]
end
end Go.Ev
namespace Go.Ev.Op
open Go Go.Proofs Go.RowKit Go.Ev
set_option maxRecDepth 10000
set_option linter.unusedVariables false
set_option linter.unusedSimpArgs false
theorem un4 : Try.prog.underlying 4 = some .bool := by kernel_rfl
theorem ce4 : Try.prog.cellsOf 4 = 1 := by kernel_rfl
theorem un22 : Try.prog.underlying 22 = some (.slice 4) := by kernel_rfl
theorem ce22 : Try.prog.cellsOf 22 = 1 := by kernel_rfl
theorem ag4 : isAgg Try.prog 4 = false := by kernel_rfl
theorem ty22 : ∀ (n : Nat) (vs : List V), TyOk Try.prog n 22 vs → ∃ l : List Bool, vs = [.slc false 1 (l.map B)] ∧ l.length ≤ 9223372036854775807 ∧ okL (l.map B) := by
  intro n vs h
  cases n with
  | zero => cases h
  | succ n =>
    obtain ⟨l, h1, h2, h3⟩ := tyOk_slc un22 (f := B) (fun us hu => ty_bool1 ag4 un4 hu) h
    rw [ce4] at h1
    exact ⟨l, h1, h2, h3⟩
theorem un3 : Try.prog.underlying 3 = some (.int .i64) := by kernel_rfl
theorem ce3 : Try.prog.cellsOf 3 = 1 := by kernel_rfl
theorem un43 : Try.prog.underlying 43 = some (.slice 3) := by kernel_rfl
theorem ce43 : Try.prog.cellsOf 43 = 1 := by kernel_rfl
theorem ag3 : isAgg Try.prog 3 = false := by kernel_rfl
theorem ty43 : ∀ (n : Nat) (vs : List V), TyOk Try.prog n 43 vs → ∃ l : List Int, vs = [.slc false 1 (l.map I)] ∧ l.length ≤ 9223372036854775807 ∧ okL (l.map I) := by
  intro n vs h
  cases n with
  | zero => cases h
  | succ n =>
    obtain ⟨l, h1, h2, h3⟩ := tyOk_slc un43 (f := I) (fun us hu => ty_int1 ag3 un3 hu) h
    rw [ce3] at h1
    exact ⟨l, h1, h2, h3⟩
theorem un23 : Try.prog.underlying 23 = some (.slice 43) := by kernel_rfl
theorem ce23 : Try.prog.cellsOf 23 = 1 := by kernel_rfl
theorem ag43 : isAgg Try.prog 43 = false := by kernel_rfl
theorem ty23 : ∀ (n : Nat) (vs : List V), TyOk Try.prog n 23 vs → ∃ l : List (List Int), vs = [.slc false 1 (l.map IL)] ∧ l.length ≤ 9223372036854775807 ∧ okL (l.map IL) := by
  intro n vs h
  cases n with
  | zero => cases h
  | succ n =>
    obtain ⟨l, h1, h2, h3⟩ := tyOk_slc un23 (f := IL) (fun us hu => ty_slc1 ag43 (ty43 _ _ hu)) h
    rw [ce43] at h1
    exact ⟨l, h1, h2, h3⟩
theorem fo25 : fieldsOf Try.prog 25 = some [(22, 0), (23, 1)] := by kernel_rfl
theorem ce25 : Try.prog.cellsOf 25 = 2 := by kernel_rfl
theorem ty25 : ∀ (n : Nat) (vs : List V), TyOk Try.prog n 25 vs → ∃ x : Dfa, V.agg vs = x.enc ∧ okV x.enc := by
  intro n
  induction n using Nat.strongRecOn with
  | _ n ih =>
  cases n with
  | zero => intro vs h; cases h
  | succ n =>
    intro vs h
    obtain ⟨hl, hf⟩ := tyOk_struct fo25 h
    rw [ce25] at hl
    match vs, hl with
    | [a0, a1], _ =>
      have h0 := hf (22, 0) (by simp)
      dsimp only at h0
      rw [ce22] at h0
      simp only [List.drop_succ_cons, List.drop_zero, List.take_succ_cons, List.take_zero] at h0
      obtain ⟨m0, e0, l0, o0⟩ := ty22 _ _ h0
      obtain rfl : a0 = _ := (List.cons.inj e0).1
      have h1 := hf (23, 1) (by simp)
      dsimp only at h1
      rw [ce23] at h1
      simp only [List.drop_succ_cons, List.drop_zero, List.take_succ_cons, List.take_zero] at h1
      obtain ⟨m1, e1, l1, o1⟩ := ty23 _ _ h1
      obtain rfl : a1 = _ := (List.cons.inj e1).1
      refine ⟨⟨m0, m1⟩, ?_, ?_⟩
      · simp only [Rx.enc_eq, Vals.enc, Mor.enc, Sta.enc, Con.enc, Line.enc, Ans.enc, Prob.enc, Prog.enc, Ses.enc, Equ.enc, Mon.enc, Frm.enc, Mov.enc, Stp.enc, Dfa.enc, IL, I, B, V.agg.injEq, List.cons.injEq, and_true, true_and]
      · simp only [Rx.enc_eq, Vals.enc, Mor.enc, Sta.enc, Con.enc, Line.enc, Ans.enc, Prob.enc, Prog.enc, Ses.enc, Equ.enc, Mon.enc, Frm.enc, Mov.enc, Stp.enc, Dfa.enc, IL, I, B, okV, okL, List.length_map, and_true, true_and]
        simp only [l0, o0, l1, o1, and_self]
theorem un9 : Try.prog.underlying 9 = some .string := by kernel_rfl
theorem ce9 : Try.prog.cellsOf 9 = 1 := by kernel_rfl
theorem fo35 : fieldsOf Try.prog 35 = some [(9, 0), (9, 1), (9, 2)] := by kernel_rfl
theorem ce35 : Try.prog.cellsOf 35 = 3 := by kernel_rfl
theorem ty35 : ∀ (n : Nat) (vs : List V), TyOk Try.prog n 35 vs → ∃ x : Mor, V.agg vs = x.enc ∧ okV x.enc := by
  intro n
  induction n using Nat.strongRecOn with
  | _ n ih =>
  cases n with
  | zero => intro vs h; cases h
  | succ n =>
    intro vs h
    obtain ⟨hl, hf⟩ := tyOk_struct fo35 h
    rw [ce35] at hl
    match vs, hl with
    | [a0, a1, a2], _ =>
      have h0 := hf (9, 0) (by simp)
      dsimp only at h0
      rw [ce9] at h0
      simp only [List.drop_succ_cons, List.drop_zero, List.take_succ_cons, List.take_zero] at h0
      obtain ⟨m0, e0, o0⟩ := tyOk_str un9 h0
      obtain rfl : a0 = _ := (List.cons.inj e0).1
      have h1 := hf (9, 1) (by simp)
      dsimp only at h1
      rw [ce9] at h1
      simp only [List.drop_succ_cons, List.drop_zero, List.take_succ_cons, List.take_zero] at h1
      obtain ⟨m1, e1, o1⟩ := tyOk_str un9 h1
      obtain rfl : a1 = _ := (List.cons.inj e1).1
      have h2 := hf (9, 2) (by simp)
      dsimp only at h2
      rw [ce9] at h2
      simp only [List.drop_succ_cons, List.drop_zero, List.take_succ_cons, List.take_zero] at h2
      obtain ⟨m2, e2, o2⟩ := tyOk_str un9 h2
      obtain rfl : a2 = _ := (List.cons.inj e2).1
      refine ⟨⟨m0, m1, m2⟩, ?_, ?_⟩
      · simp only [Rx.enc_eq, Vals.enc, Mor.enc, Sta.enc, Con.enc, Line.enc, Ans.enc, Prob.enc, Prog.enc, Ses.enc, Equ.enc, Mon.enc, Frm.enc, Mov.enc, Stp.enc, Dfa.enc, IL, I, B, V.agg.injEq, List.cons.injEq, and_true, true_and]
      · simp only [Rx.enc_eq, Vals.enc, Mor.enc, Sta.enc, Con.enc, Line.enc, Ans.enc, Prob.enc, Prog.enc, Ses.enc, Equ.enc, Mon.enc, Frm.enc, Mov.enc, Stp.enc, Dfa.enc, IL, I, B, okV, okL, List.length_map, and_true, true_and]
        simp only [o0, o1, o2, and_self]
theorem closed : closedT Try.prog [4, 22, 3, 43, 23, 25, 9, 35] = true := by kernel_rfl
end Go.Ev.Op
