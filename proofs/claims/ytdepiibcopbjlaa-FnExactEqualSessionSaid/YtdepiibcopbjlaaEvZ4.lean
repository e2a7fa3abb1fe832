/- The program's comparisons. -/
import Derived.Test.YtdepiibcopbjlaaEvEnv
import Derived.Test.YtdepiibcopbjlaaEvData
namespace Go.Ev
open Go Go.Proofs
set_option maxRecDepth 10000
set_option linter.unusedVariables false
set_option linter.unusedSimpArgs false
theorem r99 (l m : List Int) (hl : l.length ≤ 1048576) : run EE 99 [.slc false 1 (l.map I), .slc false 1 (m.map I)] [] = some (.bool (veqs (l.map I) (m.map I)), []) := by
  rw [run_eq EE 99 _ _ Try.func99 (by decide +kernel) rfl (show 2 ≤ _ by decide)]
  dsimp only [Try.f99]
  by_cases hn : l.length = m.length
  · have hn' : (l.length : Int) = m.length := by omega
    simp only [go_sem, hn', bne_self_eq_false]
    refine iter_inv (fun i : Nat => i ≤ l.length) (fun i => { t := upd (upd (upd (e0) 5 (.int .i64 i)) 1 (.slc false 1 (m.map I))) 0 (.slc false 1 (l.map I)), b := n0, o := [], r := #[ResultVar.tmp 4], f := 99, n := 26 }) (fun i => some (.bool (veqs ((l.drop i).map I) ((m.drop i).map I)), [])) (fun i => l.length - i) ?_ 0 (Nat.zero_le _)
    intro i hi ih
    by_cases h : i < l.length
    · have h1 : (i : Int) < l.length := by omega
      have h1' : (i : Int) < m.length := by omega
      have h' : i < m.length := by omega
      have w := wrap_nat (n := i) (by omega)
      simp only [go_sem, h1, h1']
      rw [q_drawn]
      rotate_left
      · kernel_rfl
      simp only [go_sem, h1, h1', w, getD_map h, getD_map h', I]
      rw [List.drop_eq_getElem_cons h, List.drop_eq_getElem_cons h', List.map_cons, List.map_cons, veqs_cons]
      refine condL_bool (fun c => ?_) (fun c => ?_)
      · have c' : (l[i] == m[i]) = false := by simpa [bne] using c
        simp only [go_sem, I, veq, c', Bool.false_and]
      · have c' : (l[i] == m[i]) = true := by simpa [bne] using c
        simp only [go_sem, w, I, veq, c', Bool.true_and]
        exact ih (i + 1) (by omega) (by omega)
    · have h1 : ¬ (i : Int) < l.length := by omega
      have h1' : ¬ (i : Int) < m.length := by omega
      have e1 : l.drop i = [] := List.drop_eq_nil_of_le (by omega)
      have e2 : m.drop i = [] := List.drop_eq_nil_of_le (by omega)
      simp only [go_sem, h1, h1', e1, e2, veqs]
  · have hn' : ((l.length : Int) != m.length) = true := by simp; omega
    simp only [go_sem, hn']
    rw [veqs_ne (by simpa using hn)]

theorem r101 (l m : List Int) (hl : l.length ≤ 1048576) : run EE 101 [.slc false 1 (l.map I), .slc false 1 (m.map I)] [] = some (.bool (veqs (l.map I) (m.map I)), []) := by
  rw [run_eq EE 101 _ _ Try.func101 (by decide +kernel) rfl (show 2 ≤ _ by decide)]
  dsimp only [Try.f101]
  by_cases hn : l.length = m.length
  · have hn' : (l.length : Int) = m.length := by omega
    simp only [go_sem, hn', bne_self_eq_false]
    refine iter_inv (fun i : Nat => i ≤ l.length) (fun i => { t := upd (upd (upd (upd (e0) 13 (.int .i64 i)) 12 (.int .i64 m.length)) 1 (.slc false 1 (m.map I))) 0 (.slc false 1 (l.map I)), b := n0, o := [], r := #[ResultVar.tmp 4], f := 101, n := 26 }) (fun i => some (.bool (veqs ((l.drop i).map I) ((m.drop i).map I)), [])) (fun i => l.length - i) ?_ 0 (Nat.zero_le _)
    intro i hi ih
    by_cases h : i < l.length
    · have h1 : (i : Int) < l.length := by omega
      have h1' : (i : Int) < m.length := by omega
      have h' : i < m.length := by omega
      have w := wrap_nat (n := i) (by omega)
      simp only [go_sem, h1, h1']
      rw [q_drawn]
      rotate_left
      · kernel_rfl
      simp only [go_sem, h1, h1', w, getD_map h, getD_map h', I]
      rw [List.drop_eq_getElem_cons h, List.drop_eq_getElem_cons h', List.map_cons, List.map_cons, veqs_cons]
      refine condL_bool (fun c => ?_) (fun c => ?_)
      · have c' : (l[i] == m[i]) = false := by simpa [bne] using c
        simp only [go_sem, I, veq, c', Bool.false_and]
      · have c' : (l[i] == m[i]) = true := by simpa [bne] using c
        simp only [go_sem, w, I, veq, c', Bool.true_and]
        exact ih (i + 1) (by omega) (by omega)
    · have h1 : ¬ (i : Int) < l.length := by omega
      have h1' : ¬ (i : Int) < m.length := by omega
      have e1 : l.drop i = [] := List.drop_eq_nil_of_le (by omega)
      have e2 : m.drop i = [] := List.drop_eq_nil_of_le (by omega)
      simp only [go_sem, h1, h1', e1, e2, veqs]
  · have hn' : ((l.length : Int) != m.length) = true := by simp; omega
    simp only [go_sem, hn']
    rw [veqs_ne (by simpa using hn)]

theorem r132 (l m : List Rx) (hl : l.length ≤ 1048576) (hc : ∀ x ∈ l, ∀ y : Rx, run EE 120 [x.enc, y.enc] [] = some (.bool (veq x.enc y.enc), [])) : run EE 132 [.slc false 3 (l.map Rx.enc), .slc false 3 (m.map Rx.enc), .fn 120 []] [] = some (.bool (veqs (l.map Rx.enc) (m.map Rx.enc)), []) := by
  rw [run_eq EE 132 _ _ Try.func132 (by decide +kernel) rfl (show 3 ≤ _ by decide)]
  dsimp only [Try.f132]
  by_cases hn : l.length = m.length
  · have hn' : (l.length : Int) = m.length := by omega
    simp only [go_sem, hn', bne_self_eq_false]
    refine iter_inv (fun i : Nat => i ≤ l.length) (fun i => { t := upd (upd (upd (upd (upd (e0) 17 (.int .i64 i)) 16 (.int .i64 m.length)) 15 (.slc false 3 (l.map Rx.enc))) 2 (.fn 120 [])) 1 (.slc false 3 (m.map Rx.enc)), b := n0, o := [], r := #[ResultVar.tmp 6], f := 132, n := 32 }) (fun i => some (.bool (veqs ((l.drop i).map Rx.enc) ((m.drop i).map Rx.enc)), [])) (fun i => l.length - i) ?_ 0 (Nat.zero_le _)
    intro i hi ih
    by_cases h : i < l.length
    · have h1 : (i : Int) < l.length := by omega
      have h1' : (i : Int) < m.length := by omega
      have h' : i < m.length := by omega
      have w := wrap_nat (n := i) (by omega)
      have hx := hc l[i] (List.getElem_mem h) m[i]
      rw [List.drop_eq_getElem_cons h, List.drop_eq_getElem_cons h', List.map_cons, List.map_cons, veqs_cons]
      generalize veq l[i].enc m[i].enc = r at hx ⊢
      simp only [Rx.enc_eq, Vals.enc, Mor.enc, Sta.enc, Con.enc, Line.enc, Ans.enc, Prob.enc, Prog.enc, Ses.enc] at hx
      simp only [go_sem, h1, h1', w, getD_map h, getD_map h', hx]
      cases r
      · simp only [go_sem, Bool.not_false, Bool.false_and]
      · simp only [go_sem, w, Bool.not_true, Bool.true_and]
        exact ih (i + 1) (by omega) (by omega)
    · have h1 : ¬ (i : Int) < l.length := by omega
      have h1' : ¬ (i : Int) < m.length := by omega
      have e1 : l.drop i = [] := List.drop_eq_nil_of_le (by omega)
      have e2 : m.drop i = [] := List.drop_eq_nil_of_le (by omega)
      simp only [go_sem, h1, h1', e1, e2, List.map_nil, veqs]
  · have hn' : ((l.length : Int) != m.length) = true := by simp; omega
    simp only [go_sem, hn']
    rw [veqs_ne (by simpa using hn)]

theorem r120 (x y : Rx) (hs : szT x.enc ≤ 1048576) : run EE 120 [x.enc, y.enc] [] = some (.bool (veq x.enc y.enc), []) := by
  have hs' := hs
  simp only [Rx.enc_eq, Vals.enc, Mor.enc, Sta.enc, Con.enc, Line.enc, Ans.enc, Prob.enc, Prog.enc, Ses.enc, szT, szL, List.length_map] at hs'
  have hc : ∀ z ∈ x.args, ∀ v : Rx, run EE 120 [z.enc, v.enc] [] = some (.bool (veq z.enc v.enc), []) := fun z hz v => r120 z v (Nat.le_trans (szL_mem (f := Rx.enc) hz) (by omega))
  have q0 := r132 x.args y.args (by simp only [Rx.enc_eq, Vals.enc, Mor.enc, Sta.enc, Con.enc, Line.enc, Ans.enc, Prob.enc, Prog.enc, Ses.enc, szT, szL, List.length_map] at hs; omega) hc
  try simp only [Rx.enc_eq, Vals.enc, Mor.enc, Sta.enc, Con.enc, Line.enc, Ans.enc, Prob.enc, Prog.enc, Ses.enc] at q0
  rw [run_eq EE 120 _ _ Try.func120 (by decide +kernel) rfl (show 2 ≤ _ by decide)]
  dsimp only [Try.f120]
  have hv : veq x.enc y.enc = ((x.kind == y.kind) && ((x.letter.toList == y.letter.toList) && ((veqs (x.args.map Rx.enc) (y.args.map Rx.enc))))) := by
    simp only [Rx.enc_eq, Vals.enc, Mor.enc, Sta.enc, Con.enc, Line.enc, Ans.enc, Prob.enc, Prog.enc, Ses.enc, veq, veqs]
    generalize (x.kind == y.kind) = b0
    generalize (x.letter.toList == y.letter.toList) = b1
    generalize (veqs (x.args.map Rx.enc) (y.args.map Rx.enc)) = b2
    cases b0 <;> cases b1 <;> cases b2 <;> rfl
  rw [hv]
  clear hv
  simp only [go_sem, q0]
  repeat (first | refine guardL_bool (fun c => ?_) (fun c => ?_) <;> simp only [go_sem, q0, c] | refine condL_bool (fun c => ?_) (fun c => ?_) <;> simp only [go_sem, q0, c])
  all_goals (try simp only [*, Bool.true_and, Bool.false_and])
  termination_by SizeOf.sizeOf x
  decreasing_by exact Rx.lt _ hz

theorem r55 (x y : Sta) (hs : szT x.enc ≤ 1048576) : run EE 55 [x.enc, y.enc] [] = some (.bool (veq x.enc y.enc), []) := by
  have hs' := hs
  simp only [Rx.enc_eq, Vals.enc, Mor.enc, Sta.enc, Con.enc, Line.enc, Ans.enc, Prob.enc, Prog.enc, Ses.enc, szT, szL, List.length_map] at hs'
  have q0 := r99 x.maps y.maps (by simp only [Rx.enc_eq, Vals.enc, Mor.enc, Sta.enc, Con.enc, Line.enc, Ans.enc, Prob.enc, Prog.enc, Ses.enc, szT, szL, List.length_map] at hs; omega)
  try simp only [Rx.enc_eq, Vals.enc, Mor.enc, Sta.enc, Con.enc, Line.enc, Ans.enc, Prob.enc, Prog.enc, Ses.enc] at q0
  rw [run_eq EE 55 _ _ Try.func55 (by decide +kernel) rfl (show 2 ≤ _ by decide)]
  dsimp only [Try.f55]
  have hv : veq x.enc y.enc = ((x.left.toList == y.left.toList) && ((x.right.toList == y.right.toList) && ((veqs (x.maps.map I) (y.maps.map I))))) := by
    simp only [Rx.enc_eq, Vals.enc, Mor.enc, Sta.enc, Con.enc, Line.enc, Ans.enc, Prob.enc, Prog.enc, Ses.enc, veq, veqs]
    generalize (x.left.toList == y.left.toList) = b0
    generalize (x.right.toList == y.right.toList) = b1
    generalize (veqs (x.maps.map I) (y.maps.map I)) = b2
    cases b0 <;> cases b1 <;> cases b2 <;> rfl
  rw [hv]
  clear hv
  simp only [go_sem, q0]
  repeat (first | refine guardL_bool (fun c => ?_) (fun c => ?_) <;> simp only [go_sem, q0, c] | refine condL_bool (fun c => ?_) (fun c => ?_) <;> simp only [go_sem, q0, c])
  all_goals (try simp only [*, Bool.true_and, Bool.false_and])

theorem r59 (x y : Sta) (hs : szT x.enc ≤ 1048576) : run EE 59 [x.enc, y.enc] [] = some (.bool (veq x.enc y.enc), []) := by
  have hs' := hs
  simp only [Rx.enc_eq, Vals.enc, Mor.enc, Sta.enc, Con.enc, Line.enc, Ans.enc, Prob.enc, Prog.enc, Ses.enc, szT, szL, List.length_map] at hs'
  have q0 := r101 x.maps y.maps (by simp only [Rx.enc_eq, Vals.enc, Mor.enc, Sta.enc, Con.enc, Line.enc, Ans.enc, Prob.enc, Prog.enc, Ses.enc, szT, szL, List.length_map] at hs; omega)
  try simp only [Rx.enc_eq, Vals.enc, Mor.enc, Sta.enc, Con.enc, Line.enc, Ans.enc, Prob.enc, Prog.enc, Ses.enc] at q0
  rw [run_eq EE 59 _ _ Try.func59 (by decide +kernel) rfl (show 2 ≤ _ by decide)]
  dsimp only [Try.f59]
  have hv : veq x.enc y.enc = ((x.left.toList == y.left.toList) && ((x.right.toList == y.right.toList) && ((veqs (x.maps.map I) (y.maps.map I))))) := by
    simp only [Rx.enc_eq, Vals.enc, Mor.enc, Sta.enc, Con.enc, Line.enc, Ans.enc, Prob.enc, Prog.enc, Ses.enc, veq, veqs]
    generalize (x.left.toList == y.left.toList) = b0
    generalize (x.right.toList == y.right.toList) = b1
    generalize (veqs (x.maps.map I) (y.maps.map I)) = b2
    cases b0 <;> cases b1 <;> cases b2 <;> rfl
  rw [hv]
  clear hv
  simp only [go_sem, q0]
  repeat (first | refine guardL_bool (fun c => ?_) (fun c => ?_) <;> simp only [go_sem, q0, c] | refine condL_bool (fun c => ?_) (fun c => ?_) <;> simp only [go_sem, q0, c])
  all_goals (try simp only [*, Bool.true_and, Bool.false_and])

theorem r62 (l m : List Sta) (hl : l.length ≤ 1048576) (hc : ∀ x ∈ l, ∀ y : Sta, run EE 59 [x.enc, y.enc] [] = some (.bool (veq x.enc y.enc), [])) : run EE 62 [.slc false 3 (l.map Sta.enc), .slc false 3 (m.map Sta.enc), .fn 59 []] [] = some (.bool (veqs (l.map Sta.enc) (m.map Sta.enc)), []) := by
  rw [run_eq EE 62 _ _ Try.func62 (by decide +kernel) rfl (show 3 ≤ _ by decide)]
  dsimp only [Try.f62]
  by_cases hn : l.length = m.length
  · have hn' : (l.length : Int) = m.length := by omega
    simp only [go_sem, hn', bne_self_eq_false]
    refine iter_inv (fun i : Nat => i ≤ l.length) (fun i => { t := upd (upd (upd (upd (upd (e0) 17 (.int .i64 i)) 16 (.int .i64 m.length)) 15 (.slc false 3 (l.map Sta.enc))) 2 (.fn 59 [])) 1 (.slc false 3 (m.map Sta.enc)), b := n0, o := [], r := #[ResultVar.tmp 6], f := 62, n := 32 }) (fun i => some (.bool (veqs ((l.drop i).map Sta.enc) ((m.drop i).map Sta.enc)), [])) (fun i => l.length - i) ?_ 0 (Nat.zero_le _)
    intro i hi ih
    by_cases h : i < l.length
    · have h1 : (i : Int) < l.length := by omega
      have h1' : (i : Int) < m.length := by omega
      have h' : i < m.length := by omega
      have w := wrap_nat (n := i) (by omega)
      have hx := hc l[i] (List.getElem_mem h) m[i]
      rw [List.drop_eq_getElem_cons h, List.drop_eq_getElem_cons h', List.map_cons, List.map_cons, veqs_cons]
      generalize veq l[i].enc m[i].enc = r at hx ⊢
      simp only [Rx.enc_eq, Vals.enc, Mor.enc, Sta.enc, Con.enc, Line.enc, Ans.enc, Prob.enc, Prog.enc, Ses.enc] at hx
      simp only [go_sem, h1, h1', w, getD_map h, getD_map h', hx]
      cases r
      · simp only [go_sem, Bool.not_false, Bool.false_and]
      · simp only [go_sem, w, Bool.not_true, Bool.true_and]
        exact ih (i + 1) (by omega) (by omega)
    · have h1 : ¬ (i : Int) < l.length := by omega
      have h1' : ¬ (i : Int) < m.length := by omega
      have e1 : l.drop i = [] := List.drop_eq_nil_of_le (by omega)
      have e2 : m.drop i = [] := List.drop_eq_nil_of_le (by omega)
      simp only [go_sem, h1, h1', e1, e2, List.map_nil, veqs]
  · have hn' : ((l.length : Int) != m.length) = true := by simp; omega
    simp only [go_sem, hn']
    rw [veqs_ne (by simpa using hn)]

theorem r61 (l m : List Sta) (hl : l.length ≤ 1048576) (hc : ∀ x ∈ l, ∀ y : Sta, run EE 55 [x.enc, y.enc] [] = some (.bool (veq x.enc y.enc), [])) : run EE 61 [.slc false 3 (l.map Sta.enc), .slc false 3 (m.map Sta.enc)] [] = some (.bool (veqs (l.map Sta.enc) (m.map Sta.enc)), []) := by
  rw [run_eq EE 61 _ _ Try.func61 (by decide +kernel) rfl (show 2 ≤ _ by decide)]
  dsimp only [Try.f61]
  by_cases hn : l.length = m.length
  · have hn' : (l.length : Int) = m.length := by omega
    simp only [go_sem, hn', bne_self_eq_false]
    refine iter_inv (fun i : Nat => i ≤ l.length) (fun i => { t := upd (upd (upd (e0) 5 (.int .i64 i)) 1 (.slc false 3 (m.map Sta.enc))) 0 (.slc false 3 (l.map Sta.enc)), b := n0, o := [], r := #[ResultVar.tmp 4], f := 61, n := 27 }) (fun i => some (.bool (veqs ((l.drop i).map Sta.enc) ((m.drop i).map Sta.enc)), [])) (fun i => l.length - i) ?_ 0 (Nat.zero_le _)
    intro i hi ih
    by_cases h : i < l.length
    · have h1 : (i : Int) < l.length := by omega
      have h1' : (i : Int) < m.length := by omega
      have h' : i < m.length := by omega
      have w := wrap_nat (n := i) (by omega)
      have hx := hc l[i] (List.getElem_mem h) m[i]
      rw [List.drop_eq_getElem_cons h, List.drop_eq_getElem_cons h', List.map_cons, List.map_cons, veqs_cons]
      generalize veq l[i].enc m[i].enc = r at hx ⊢
      simp only [Rx.enc_eq, Vals.enc, Mor.enc, Sta.enc, Con.enc, Line.enc, Ans.enc, Prob.enc, Prog.enc, Ses.enc] at hx
      simp only [go_sem, h1, h1']
      rw [q_drawn]
      rotate_left
      · kernel_rfl
      simp only [go_sem, h1, h1', w, getD_map h, getD_map h', hx]
      cases r
      · simp only [go_sem, Bool.not_false, Bool.false_and]
      · simp only [go_sem, w, Bool.not_true, Bool.true_and]
        exact ih (i + 1) (by omega) (by omega)
    · have h1 : ¬ (i : Int) < l.length := by omega
      have h1' : ¬ (i : Int) < m.length := by omega
      have e1 : l.drop i = [] := List.drop_eq_nil_of_le (by omega)
      have e2 : m.drop i = [] := List.drop_eq_nil_of_le (by omega)
      simp only [go_sem, h1, h1', e1, e2, List.map_nil, veqs]
  · have hn' : ((l.length : Int) != m.length) = true := by simp; omega
    simp only [go_sem, hn']
    rw [veqs_ne (by simpa using hn)]

theorem r119 (x y : Con) (hs : szT x.enc ≤ 1048576) : run EE 119 [x.enc, y.enc] [] = some (.bool (veq x.enc y.enc), []) := by
  have hs' := hs
  simp only [Rx.enc_eq, Vals.enc, Mor.enc, Sta.enc, Con.enc, Line.enc, Ans.enc, Prob.enc, Prog.enc, Ses.enc, szT, szL, List.length_map] at hs'
  have q0 := r120 x.regex y.regex (by simp only [Rx.enc_eq, Vals.enc, Mor.enc, Sta.enc, Con.enc, Line.enc, Ans.enc, Prob.enc, Prog.enc, Ses.enc, szT, szL, List.length_map] at hs ⊢; omega)
  try simp only [Rx.enc_eq, Vals.enc, Mor.enc, Sta.enc, Con.enc, Line.enc, Ans.enc, Prob.enc, Prog.enc, Ses.enc] at q0
  have q1 := r101 x.coeffs y.coeffs (by simp only [Rx.enc_eq, Vals.enc, Mor.enc, Sta.enc, Con.enc, Line.enc, Ans.enc, Prob.enc, Prog.enc, Ses.enc, szT, szL, List.length_map] at hs; omega)
  try simp only [Rx.enc_eq, Vals.enc, Mor.enc, Sta.enc, Con.enc, Line.enc, Ans.enc, Prob.enc, Prog.enc, Ses.enc] at q1
  rw [run_eq EE 119 _ _ Try.func119 (by decide +kernel) rfl (show 2 ≤ _ by decide)]
  dsimp only [Try.f119]
  have hv : veq x.enc y.enc = ((x.kind == y.kind) && ((x.left.toList == y.left.toList) && ((x.right.toList == y.right.toList) && (veq x.regex.enc y.regex.enc && ((veqs (x.coeffs.map I) (y.coeffs.map I)) && ((x.bound == y.bound))))))) := by
    simp only [Rx.enc_eq, Vals.enc, Mor.enc, Sta.enc, Con.enc, Line.enc, Ans.enc, Prob.enc, Prog.enc, Ses.enc, veq, veqs]
    generalize (x.kind == y.kind) = b0
    generalize (x.left.toList == y.left.toList) = b1
    generalize (x.right.toList == y.right.toList) = b2
    generalize (x.regex.kind == y.regex.kind) = b3
    generalize (x.regex.letter.toList == y.regex.letter.toList) = b4
    generalize (veqs (x.regex.args.map Rx.enc) (y.regex.args.map Rx.enc)) = b5
    generalize (veqs (x.coeffs.map I) (y.coeffs.map I)) = b6
    generalize (x.bound == y.bound) = b7
    cases b0 <;> cases b1 <;> cases b2 <;> cases b3 <;> cases b4 <;> cases b5 <;> cases b6 <;> cases b7 <;> rfl
  rw [hv]
  clear hv
  simp only [go_sem, q0, q1]
  repeat (first | refine guardL_bool (fun c => ?_) (fun c => ?_) <;> simp only [go_sem, q0, q1, c] | refine condL_bool (fun c => ?_) (fun c => ?_) <;> simp only [go_sem, q0, q1, c])
  all_goals (try simp only [*, Bool.true_and, Bool.false_and])

theorem r118 (l m : List Con) (hl : l.length ≤ 1048576) (hc : ∀ x ∈ l, ∀ y : Con, run EE 119 [x.enc, y.enc] [] = some (.bool (veq x.enc y.enc), [])) : run EE 118 [.slc false 8 (l.map Con.enc), .slc false 8 (m.map Con.enc), .fn 119 []] [] = some (.bool (veqs (l.map Con.enc) (m.map Con.enc)), []) := by
  rw [run_eq EE 118 _ _ Try.func118 (by decide +kernel) rfl (show 3 ≤ _ by decide)]
  dsimp only [Try.f118]
  by_cases hn : l.length = m.length
  · have hn' : (l.length : Int) = m.length := by omega
    simp only [go_sem, hn', bne_self_eq_false]
    refine iter_inv (fun i : Nat => i ≤ l.length) (fun i => { t := upd (upd (upd (upd (upd (e0) 17 (.int .i64 i)) 16 (.int .i64 m.length)) 15 (.slc false 8 (l.map Con.enc))) 2 (.fn 119 [])) 1 (.slc false 8 (m.map Con.enc)), b := n0, o := [], r := #[ResultVar.tmp 6], f := 118, n := 32 }) (fun i => some (.bool (veqs ((l.drop i).map Con.enc) ((m.drop i).map Con.enc)), [])) (fun i => l.length - i) ?_ 0 (Nat.zero_le _)
    intro i hi ih
    by_cases h : i < l.length
    · have h1 : (i : Int) < l.length := by omega
      have h1' : (i : Int) < m.length := by omega
      have h' : i < m.length := by omega
      have w := wrap_nat (n := i) (by omega)
      have hx := hc l[i] (List.getElem_mem h) m[i]
      rw [List.drop_eq_getElem_cons h, List.drop_eq_getElem_cons h', List.map_cons, List.map_cons, veqs_cons]
      generalize veq l[i].enc m[i].enc = r at hx ⊢
      simp only [Rx.enc_eq, Vals.enc, Mor.enc, Sta.enc, Con.enc, Line.enc, Ans.enc, Prob.enc, Prog.enc, Ses.enc] at hx
      simp only [go_sem, h1, h1', w, getD_map h, getD_map h', hx]
      cases r
      · simp only [go_sem, Bool.not_false, Bool.false_and]
      · simp only [go_sem, w, Bool.not_true, Bool.true_and]
        exact ih (i + 1) (by omega) (by omega)
    · have h1 : ¬ (i : Int) < l.length := by omega
      have h1' : ¬ (i : Int) < m.length := by omega
      have e1 : l.drop i = [] := List.drop_eq_nil_of_le (by omega)
      have e2 : m.drop i = [] := List.drop_eq_nil_of_le (by omega)
      simp only [go_sem, h1, h1', e1, e2, List.map_nil, veqs]
  · have hn' : ((l.length : Int) != m.length) = true := by simp; omega
    simp only [go_sem, hn']
    rw [veqs_ne (by simpa using hn)]

theorem r90 (x y : Prob) (hs : szT x.enc ≤ 1048576) : run EE 90 [x.enc, y.enc] [] = some (.bool (veq x.enc y.enc), []) := by
  have hs' := hs
  simp only [Rx.enc_eq, Vals.enc, Mor.enc, Sta.enc, Con.enc, Line.enc, Ans.enc, Prob.enc, Prog.enc, Ses.enc, szT, szL, List.length_map] at hs'
  have q0 := r118 x.list y.list (by simp only [Rx.enc_eq, Vals.enc, Mor.enc, Sta.enc, Con.enc, Line.enc, Ans.enc, Prob.enc, Prog.enc, Ses.enc, szT, szL, List.length_map] at hs; omega) (fun z hz v => r119 z v (Nat.le_trans (szL_mem (f := Con.enc) hz) (by simp only [Rx.enc_eq, Vals.enc, Mor.enc, Sta.enc, Con.enc, Line.enc, Ans.enc, Prob.enc, Prog.enc, Ses.enc, szT, szL, List.length_map] at hs; omega)))
  try simp only [Rx.enc_eq, Vals.enc, Mor.enc, Sta.enc, Con.enc, Line.enc, Ans.enc, Prob.enc, Prog.enc, Ses.enc] at q0
  rw [run_eq EE 90 _ _ Try.func90 (by decide +kernel) rfl (show 2 ≤ _ by decide)]
  dsimp only [Try.f90]
  simp only [go_sem, condL_b, bne, q0, veq, veqs]

theorem r93 (x y : Line) (hs : szT x.enc ≤ 1048576) : run EE 93 [x.enc, y.enc] [] = some (.bool (veq x.enc y.enc), []) := by
  have hs' := hs
  simp only [Rx.enc_eq, Vals.enc, Mor.enc, Sta.enc, Con.enc, Line.enc, Ans.enc, Prob.enc, Prog.enc, Ses.enc, szT, szL, List.length_map] at hs'
  have q0 := r120 x.regex y.regex (by simp only [Rx.enc_eq, Vals.enc, Mor.enc, Sta.enc, Con.enc, Line.enc, Ans.enc, Prob.enc, Prog.enc, Ses.enc, szT, szL, List.length_map] at hs ⊢; omega)
  try simp only [Rx.enc_eq, Vals.enc, Mor.enc, Sta.enc, Con.enc, Line.enc, Ans.enc, Prob.enc, Prog.enc, Ses.enc] at q0
  rw [run_eq EE 93 _ _ Try.func93 (by decide +kernel) rfl (show 2 ≤ _ by decide)]
  dsimp only [Try.f93]
  have hv : veq x.enc y.enc = ((x.kind == y.kind) && ((x.text.toList == y.text.toList) && (((x.mor.a.toList == y.mor.a.toList) && ((x.mor.b.toList == y.mor.b.toList) && ((x.mor.c.toList == y.mor.c.toList) && (true)))) && (veq x.regex.enc y.regex.enc)))) := by
    simp only [Rx.enc_eq, Vals.enc, Mor.enc, Sta.enc, Con.enc, Line.enc, Ans.enc, Prob.enc, Prog.enc, Ses.enc, veq, veqs]
    generalize (x.kind == y.kind) = b0
    generalize (x.text.toList == y.text.toList) = b1
    generalize (x.mor.a.toList == y.mor.a.toList) = b2
    generalize (x.mor.b.toList == y.mor.b.toList) = b3
    generalize (x.mor.c.toList == y.mor.c.toList) = b4
    generalize (x.regex.kind == y.regex.kind) = b5
    generalize (x.regex.letter.toList == y.regex.letter.toList) = b6
    generalize (veqs (x.regex.args.map Rx.enc) (y.regex.args.map Rx.enc)) = b7
    cases b0 <;> cases b1 <;> cases b2 <;> cases b3 <;> cases b4 <;> cases b5 <;> cases b6 <;> cases b7 <;> rfl
  rw [hv]
  clear hv
  simp only [go_sem, q0]
  repeat (first | refine guardL_bool (fun c => ?_) (fun c => ?_) <;> simp only [go_sem, q0, c] | refine condL_bool (fun c => ?_) (fun c => ?_) <;> simp only [go_sem, q0, c])
  all_goals (try simp only [*, Bool.true_and, Bool.false_and])

theorem r92 (l m : List Line) (hl : l.length ≤ 1048576) (hc : ∀ x ∈ l, ∀ y : Line, run EE 93 [x.enc, y.enc] [] = some (.bool (veq x.enc y.enc), [])) : run EE 92 [.slc false 8 (l.map Line.enc), .slc false 8 (m.map Line.enc), .fn 93 []] [] = some (.bool (veqs (l.map Line.enc) (m.map Line.enc)), []) := by
  rw [run_eq EE 92 _ _ Try.func92 (by decide +kernel) rfl (show 3 ≤ _ by decide)]
  dsimp only [Try.f92]
  by_cases hn : l.length = m.length
  · have hn' : (l.length : Int) = m.length := by omega
    simp only [go_sem, hn', bne_self_eq_false]
    refine iter_inv (fun i : Nat => i ≤ l.length) (fun i => { t := upd (upd (upd (upd (upd (e0) 17 (.int .i64 i)) 16 (.int .i64 m.length)) 15 (.slc false 8 (l.map Line.enc))) 2 (.fn 93 [])) 1 (.slc false 8 (m.map Line.enc)), b := n0, o := [], r := #[ResultVar.tmp 6], f := 92, n := 32 }) (fun i => some (.bool (veqs ((l.drop i).map Line.enc) ((m.drop i).map Line.enc)), [])) (fun i => l.length - i) ?_ 0 (Nat.zero_le _)
    intro i hi ih
    by_cases h : i < l.length
    · have h1 : (i : Int) < l.length := by omega
      have h1' : (i : Int) < m.length := by omega
      have h' : i < m.length := by omega
      have w := wrap_nat (n := i) (by omega)
      have hx := hc l[i] (List.getElem_mem h) m[i]
      rw [List.drop_eq_getElem_cons h, List.drop_eq_getElem_cons h', List.map_cons, List.map_cons, veqs_cons]
      generalize veq l[i].enc m[i].enc = r at hx ⊢
      simp only [Rx.enc_eq, Vals.enc, Mor.enc, Sta.enc, Con.enc, Line.enc, Ans.enc, Prob.enc, Prog.enc, Ses.enc] at hx
      simp only [go_sem, h1, h1', w, getD_map h, getD_map h', hx]
      cases r
      · simp only [go_sem, Bool.not_false, Bool.false_and]
      · simp only [go_sem, w, Bool.not_true, Bool.true_and]
        exact ih (i + 1) (by omega) (by omega)
    · have h1 : ¬ (i : Int) < l.length := by omega
      have h1' : ¬ (i : Int) < m.length := by omega
      have e1 : l.drop i = [] := List.drop_eq_nil_of_le (by omega)
      have e2 : m.drop i = [] := List.drop_eq_nil_of_le (by omega)
      simp only [go_sem, h1, h1', e1, e2, List.map_nil, veqs]
  · have hn' : ((l.length : Int) != m.length) = true := by simp; omega
    simp only [go_sem, hn']
    rw [veqs_ne (by simpa using hn)]

theorem r91 (x y : Ans) (hs : szT x.enc ≤ 1048576) : run EE 91 [x.enc, y.enc] [] = some (.bool (veq x.enc y.enc), []) := by
  have hs' := hs
  simp only [Rx.enc_eq, Vals.enc, Mor.enc, Sta.enc, Con.enc, Line.enc, Ans.enc, Prob.enc, Prog.enc, Ses.enc, szT, szL, List.length_map] at hs'
  have q0 := r62 x.nodes y.nodes (by simp only [Rx.enc_eq, Vals.enc, Mor.enc, Sta.enc, Con.enc, Line.enc, Ans.enc, Prob.enc, Prog.enc, Ses.enc, szT, szL, List.length_map] at hs; omega) (fun z hz v => r59 z v (Nat.le_trans (szL_mem (f := Sta.enc) hz) (by simp only [Rx.enc_eq, Vals.enc, Mor.enc, Sta.enc, Con.enc, Line.enc, Ans.enc, Prob.enc, Prog.enc, Ses.enc, szT, szL, List.length_map] at hs; omega)))
  try simp only [Rx.enc_eq, Vals.enc, Mor.enc, Sta.enc, Con.enc, Line.enc, Ans.enc, Prob.enc, Prog.enc, Ses.enc] at q0
  rw [run_eq EE 91 _ _ Try.func91 (by decide +kernel) rfl (show 2 ≤ _ by decide)]
  dsimp only [Try.f91]
  have hv : veq x.enc y.enc = ((x.code == y.code) && (((x.vals.x.toList == y.vals.x.toList) && ((x.vals.y.toList == y.vals.y.toList) && ((x.vals.z.toList == y.vals.z.toList) && (true)))) && ((veqs (x.nodes.map Sta.enc) (y.nodes.map Sta.enc)) && ((x.bound == y.bound))))) := by
    simp only [Rx.enc_eq, Vals.enc, Mor.enc, Sta.enc, Con.enc, Line.enc, Ans.enc, Prob.enc, Prog.enc, Ses.enc, veq, veqs]
    generalize (x.code == y.code) = b0
    generalize (x.vals.x.toList == y.vals.x.toList) = b1
    generalize (x.vals.y.toList == y.vals.y.toList) = b2
    generalize (x.vals.z.toList == y.vals.z.toList) = b3
    generalize (veqs (x.nodes.map Sta.enc) (y.nodes.map Sta.enc)) = b4
    generalize (x.bound == y.bound) = b5
    cases b0 <;> cases b1 <;> cases b2 <;> cases b3 <;> cases b4 <;> cases b5 <;> rfl
  rw [hv]
  clear hv
  simp only [go_sem, q0]
  repeat (first | refine guardL_bool (fun c => ?_) (fun c => ?_) <;> simp only [go_sem, q0, c] | refine condL_bool (fun c => ?_) (fun c => ?_) <;> simp only [go_sem, q0, c])
  all_goals (try simp only [*, Bool.true_and, Bool.false_and])

theorem r45 (x y : Ses) (hs : szT x.enc ≤ 1048576) : run EE 45 [x.enc, y.enc] [] = some (.bool (veq x.enc y.enc), []) := by
  have hs' := hs
  simp only [Rx.enc_eq, Vals.enc, Mor.enc, Sta.enc, Con.enc, Line.enc, Ans.enc, Prob.enc, Prog.enc, Ses.enc, szT, szL, List.length_map] at hs'
  have q0 := r90 x.prob y.prob (by simp only [Rx.enc_eq, Vals.enc, Mor.enc, Sta.enc, Con.enc, Line.enc, Ans.enc, Prob.enc, Prog.enc, Ses.enc, szT, szL, List.length_map] at hs ⊢; omega)
  try simp only [Rx.enc_eq, Vals.enc, Mor.enc, Sta.enc, Con.enc, Line.enc, Ans.enc, Prob.enc, Prog.enc, Ses.enc] at q0
  have q1 := r91 x.ans y.ans (by simp only [Rx.enc_eq, Vals.enc, Mor.enc, Sta.enc, Con.enc, Line.enc, Ans.enc, Prob.enc, Prog.enc, Ses.enc, szT, szL, List.length_map] at hs ⊢; omega)
  try simp only [Rx.enc_eq, Vals.enc, Mor.enc, Sta.enc, Con.enc, Line.enc, Ans.enc, Prob.enc, Prog.enc, Ses.enc] at q1
  have q2 := r92 x.prog.lines y.prog.lines (by simp only [Rx.enc_eq, Vals.enc, Mor.enc, Sta.enc, Con.enc, Line.enc, Ans.enc, Prob.enc, Prog.enc, Ses.enc, szT, szL, List.length_map] at hs; omega) (fun z hz v => r93 z v (Nat.le_trans (szL_mem (f := Line.enc) hz) (by simp only [Rx.enc_eq, Vals.enc, Mor.enc, Sta.enc, Con.enc, Line.enc, Ans.enc, Prob.enc, Prog.enc, Ses.enc, szT, szL, List.length_map] at hs; omega)))
  try simp only [Rx.enc_eq, Vals.enc, Mor.enc, Sta.enc, Con.enc, Line.enc, Ans.enc, Prob.enc, Prog.enc, Ses.enc] at q2
  rw [run_eq EE 45 _ _ Try.func45 (by decide +kernel) rfl (show 2 ≤ _ by decide)]
  dsimp only [Try.f45]
  have hv : veq x.enc y.enc = (veq x.prob.enc y.prob.enc && (veq x.ans.enc y.ans.enc && ((veqs (x.prog.lines.map Line.enc) (y.prog.lines.map Line.enc))))) := by
    simp only [Rx.enc_eq, Vals.enc, Mor.enc, Sta.enc, Con.enc, Line.enc, Ans.enc, Prob.enc, Prog.enc, Ses.enc, veq, veqs]
    generalize (veqs (x.prob.list.map Con.enc) (y.prob.list.map Con.enc)) = b0
    generalize (x.ans.code == y.ans.code) = b1
    generalize (x.ans.vals.x.toList == y.ans.vals.x.toList) = b2
    generalize (x.ans.vals.y.toList == y.ans.vals.y.toList) = b3
    generalize (x.ans.vals.z.toList == y.ans.vals.z.toList) = b4
    generalize (veqs (x.ans.nodes.map Sta.enc) (y.ans.nodes.map Sta.enc)) = b5
    generalize (x.ans.bound == y.ans.bound) = b6
    generalize (veqs (x.prog.lines.map Line.enc) (y.prog.lines.map Line.enc)) = b7
    cases b0 <;> cases b1 <;> cases b2 <;> cases b3 <;> cases b4 <;> cases b5 <;> cases b6 <;> cases b7 <;> rfl
  rw [hv]
  clear hv
  simp only [go_sem, q0, q1, q2]
  repeat (first | refine guardL_bool (fun c => ?_) (fun c => ?_) <;> simp only [go_sem, q0, q1, q2, c] | refine condL_bool (fun c => ?_) (fun c => ?_) <;> simp only [go_sem, q0, q1, q2, c])
  all_goals (try simp only [*, Bool.true_and, Bool.false_and])
end Go.Ev
