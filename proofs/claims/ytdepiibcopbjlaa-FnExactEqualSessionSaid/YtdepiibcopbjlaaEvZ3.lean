/- Comparisons. -/
import Derived.Test.YtdepiibcopbjlaaEvEnv
import Derived.Test.YtdepiibcopbjlaaEvData
namespace Go.Ev
open Go Go.Proofs
set_option maxRecDepth 10000
set_option linter.unusedVariables false
set_option linter.unusedSimpArgs false
theorem r60 (l m : List Int) (hl : l.length ≤ 1048576) : run EE 60 [.slc false 1 (l.map I), .slc false 1 (m.map I)] [] = some (.bool (veqs (l.map I) (m.map I)), []) := by
  rw [run_eq EE 60 _ _ Try.func60 (by decide +kernel) rfl (show 2 ≤ _ by decide)]
  dsimp only [Try.f60]
  by_cases hn : l.length = m.length
  · have hn' : (l.length : Int) = m.length := by omega
    simp only [go_sem, hn', bne_self_eq_false]
    refine iter_inv (fun i : Nat => i ≤ l.length) (fun i => { t := upd (upd (upd (e0) 5 (.int .i64 i)) 1 (.slc false 1 (m.map I))) 0 (.slc false 1 (l.map I)), b := n0, o := [], r := #[ResultVar.tmp 4], f := 60, n := 26 }) (fun i => some (.bool (veqs ((l.drop i).map I) ((m.drop i).map I)), [])) (fun i => l.length - i) ?_ 0 (Nat.zero_le _)
    intro i hi ih
    by_cases h : i < l.length
    · have h1 : (i : Int) < l.length := by omega
      have h1' : (i : Int) < m.length := by omega
      have h' : i < m.length := by omega
      have w := wrap_nat (n := i) (by omega)
      simp only [go_sem, h1, h1']
      rw [q_drawn]
      rotate_left
      · kernel_rfl
      simp only [go_sem, h1, h1', w, getD_map h, getD_map h', I]
      rw [List.drop_eq_getElem_cons h, List.drop_eq_getElem_cons h', List.map_cons, List.map_cons, veqs_cons]
      refine condL_bool (fun c => ?_) (fun c => ?_)
      · have c' : (l[i] == m[i]) = false := by simpa [bne] using c
        simp only [go_sem, I, veq, c', Bool.false_and]
      · have c' : (l[i] == m[i]) = true := by simpa [bne] using c
        simp only [go_sem, w, I, veq, c', Bool.true_and]
        exact ih (i + 1) (by omega) (by omega)
    · have h1 : ¬ (i : Int) < l.length := by omega
      have h1' : ¬ (i : Int) < m.length := by omega
      have e1 : l.drop i = [] := List.drop_eq_nil_of_le (by omega)
      have e2 : m.drop i = [] := List.drop_eq_nil_of_le (by omega)
      simp only [go_sem, h1, h1', e1, e2, veqs]
  · have hn' : ((l.length : Int) != m.length) = true := by simp; omega
    simp only [go_sem, hn']
    rw [veqs_ne (by simpa using hn)]

theorem r142 (l m : List Rx) (hl : l.length ≤ 1048576) (hc : ∀ x ∈ l, ∀ y : Rx, run EE 138 [x.enc, y.enc] [] = some (.bool (veq x.enc y.enc), [])) : run EE 142 [.slc false 3 (l.map Rx.enc), .slc false 3 (m.map Rx.enc)] [] = some (.bool (veqs (l.map Rx.enc) (m.map Rx.enc)), []) := by
  rw [run_eq EE 142 _ _ Try.func142 (by decide +kernel) rfl (show 2 ≤ _ by decide)]
  dsimp only [Try.f142]
  by_cases hn : l.length = m.length
  · have hn' : (l.length : Int) = m.length := by omega
    simp only [go_sem, hn', bne_self_eq_false]
    refine iter_inv (fun i : Nat => i ≤ l.length) (fun i => { t := upd (upd (upd (e0) 5 (.int .i64 i)) 1 (.slc false 3 (m.map Rx.enc))) 0 (.slc false 3 (l.map Rx.enc)), b := n0, o := [], r := #[ResultVar.tmp 4], f := 142, n := 27 }) (fun i => some (.bool (veqs ((l.drop i).map Rx.enc) ((m.drop i).map Rx.enc)), [])) (fun i => l.length - i) ?_ 0 (Nat.zero_le _)
    intro i hi ih
    by_cases h : i < l.length
    · have h1 : (i : Int) < l.length := by omega
      have h1' : (i : Int) < m.length := by omega
      have h' : i < m.length := by omega
      have w := wrap_nat (n := i) (by omega)
      have hx := hc l[i] (List.getElem_mem h) m[i]
      rw [List.drop_eq_getElem_cons h, List.drop_eq_getElem_cons h', List.map_cons, List.map_cons, veqs_cons]
      generalize veq l[i].enc m[i].enc = r at hx ⊢
      simp only [Rx.enc_eq, Vals.enc, Mor.enc, Sta.enc, Con.enc, Line.enc, Ans.enc, Prob.enc, Prog.enc, Ses.enc] at hx
      simp only [go_sem, h1, h1']
      rw [q_drawn]
      rotate_left
      · kernel_rfl
      simp only [go_sem, h1, h1', w, getD_map h, getD_map h', hx]
      cases r
      · simp only [go_sem, Bool.not_false, Bool.false_and]
      · simp only [go_sem, w, Bool.not_true, Bool.true_and]
        exact ih (i + 1) (by omega) (by omega)
    · have h1 : ¬ (i : Int) < l.length := by omega
      have h1' : ¬ (i : Int) < m.length := by omega
      have e1 : l.drop i = [] := List.drop_eq_nil_of_le (by omega)
      have e2 : m.drop i = [] := List.drop_eq_nil_of_le (by omega)
      simp only [go_sem, h1, h1', e1, e2, List.map_nil, veqs]
  · have hn' : ((l.length : Int) != m.length) = true := by simp; omega
    simp only [go_sem, hn']
    rw [veqs_ne (by simpa using hn)]

theorem r138 (x y : Rx) (hs : szT x.enc ≤ 1048576) : run EE 138 [x.enc, y.enc] [] = some (.bool (veq x.enc y.enc), []) := by
  have hs' := hs
  simp only [Rx.enc_eq, Vals.enc, Mor.enc, Sta.enc, Con.enc, Line.enc, Ans.enc, Prob.enc, Prog.enc, Ses.enc, szT, szL, List.length_map] at hs'
  have hc : ∀ z ∈ x.args, ∀ v : Rx, run EE 138 [z.enc, v.enc] [] = some (.bool (veq z.enc v.enc), []) := fun z hz v => r138 z v (Nat.le_trans (szL_mem (f := Rx.enc) hz) (by omega))
  have q0 := r142 x.args y.args (by simp only [Rx.enc_eq, Vals.enc, Mor.enc, Sta.enc, Con.enc, Line.enc, Ans.enc, Prob.enc, Prog.enc, Ses.enc, szT, szL, List.length_map] at hs; omega) hc
  try simp only [Rx.enc_eq, Vals.enc, Mor.enc, Sta.enc, Con.enc, Line.enc, Ans.enc, Prob.enc, Prog.enc, Ses.enc] at q0
  rw [run_eq EE 138 _ _ Try.func138 (by decide +kernel) rfl (show 2 ≤ _ by decide)]
  dsimp only [Try.f138]
  simp only [go_sem, condL_b, bne, q0, veq, veqs]
  generalize (x.kind == y.kind) = b0
  generalize (x.letter.toList == y.letter.toList) = b1
  generalize (veqs (x.args.map Rx.enc) (y.args.map Rx.enc)) = b2
  cases b0 <;> cases b1 <;> cases b2 <;> rfl
  termination_by SizeOf.sizeOf x
  decreasing_by exact Rx.lt _ hz

theorem r29 (x y : Sta) (hs : szT x.enc ≤ 1048576) : run EE 29 [x.enc, y.enc] [] = some (.bool (veq x.enc y.enc), []) := by
  have hs' := hs
  simp only [Rx.enc_eq, Vals.enc, Mor.enc, Sta.enc, Con.enc, Line.enc, Ans.enc, Prob.enc, Prog.enc, Ses.enc, szT, szL, List.length_map] at hs'
  have q0 := r60 x.maps y.maps (by simp only [Rx.enc_eq, Vals.enc, Mor.enc, Sta.enc, Con.enc, Line.enc, Ans.enc, Prob.enc, Prog.enc, Ses.enc, szT, szL, List.length_map] at hs; omega)
  try simp only [Rx.enc_eq, Vals.enc, Mor.enc, Sta.enc, Con.enc, Line.enc, Ans.enc, Prob.enc, Prog.enc, Ses.enc] at q0
  rw [run_eq EE 29 _ _ Try.func29 (by decide +kernel) rfl (show 2 ≤ _ by decide)]
  dsimp only [Try.f29]
  simp only [go_sem, condL_b, bne, q0, veq, veqs]
  generalize (x.left.toList == y.left.toList) = b0
  generalize (x.right.toList == y.right.toList) = b1
  generalize (veqs (x.maps.map I) (y.maps.map I)) = b2
  cases b0 <;> cases b1 <;> cases b2 <;> rfl

theorem r28 (l m : List Sta) (hl : l.length ≤ 1048576) (hc : ∀ x ∈ l, ∀ y : Sta, run EE 29 [x.enc, y.enc] [] = some (.bool (veq x.enc y.enc), [])) : run EE 28 [.slc false 3 (l.map Sta.enc), .slc false 3 (m.map Sta.enc)] [] = some (.bool (veqs (l.map Sta.enc) (m.map Sta.enc)), []) := by
  rw [run_eq EE 28 _ _ Try.func28 (by decide +kernel) rfl (show 2 ≤ _ by decide)]
  dsimp only [Try.f28]
  by_cases hn : l.length = m.length
  · have hn' : (l.length : Int) = m.length := by omega
    simp only [go_sem, hn', bne_self_eq_false]
    refine iter_inv (fun i : Nat => i ≤ l.length) (fun i => { t := upd (upd (upd (e0) 5 (.int .i64 i)) 1 (.slc false 3 (m.map Sta.enc))) 0 (.slc false 3 (l.map Sta.enc)), b := n0, o := [], r := #[ResultVar.tmp 4], f := 28, n := 27 }) (fun i => some (.bool (veqs ((l.drop i).map Sta.enc) ((m.drop i).map Sta.enc)), [])) (fun i => l.length - i) ?_ 0 (Nat.zero_le _)
    intro i hi ih
    by_cases h : i < l.length
    · have h1 : (i : Int) < l.length := by omega
      have h1' : (i : Int) < m.length := by omega
      have h' : i < m.length := by omega
      have w := wrap_nat (n := i) (by omega)
      have hx := hc l[i] (List.getElem_mem h) m[i]
      rw [List.drop_eq_getElem_cons h, List.drop_eq_getElem_cons h', List.map_cons, List.map_cons, veqs_cons]
      generalize veq l[i].enc m[i].enc = r at hx ⊢
      simp only [Rx.enc_eq, Vals.enc, Mor.enc, Sta.enc, Con.enc, Line.enc, Ans.enc, Prob.enc, Prog.enc, Ses.enc] at hx
      simp only [go_sem, h1, h1']
      rw [q_drawn]
      rotate_left
      · kernel_rfl
      simp only [go_sem, h1, h1', w, getD_map h, getD_map h', hx]
      cases r
      · simp only [go_sem, Bool.not_false, Bool.false_and]
      · simp only [go_sem, w, Bool.not_true, Bool.true_and]
        exact ih (i + 1) (by omega) (by omega)
    · have h1 : ¬ (i : Int) < l.length := by omega
      have h1' : ¬ (i : Int) < m.length := by omega
      have e1 : l.drop i = [] := List.drop_eq_nil_of_le (by omega)
      have e2 : m.drop i = [] := List.drop_eq_nil_of_le (by omega)
      simp only [go_sem, h1, h1', e1, e2, List.map_nil, veqs]
  · have hn' : ((l.length : Int) != m.length) = true := by simp; omega
    simp only [go_sem, hn']
    rw [veqs_ne (by simpa using hn)]

theorem r63 (x y : Vals) (hs : szT x.enc ≤ 1048576) : run EE 63 [x.enc, y.enc] [] = some (.bool (veq x.enc y.enc), []) := by
  have hs' := hs
  simp only [Rx.enc_eq, Vals.enc, Mor.enc, Sta.enc, Con.enc, Line.enc, Ans.enc, Prob.enc, Prog.enc, Ses.enc, szT, szL, List.length_map] at hs'
  rw [run_eq EE 63 _ _ Try.func63 (by decide +kernel) rfl (show 2 ≤ _ by decide)]
  dsimp only [Try.f63]
  simp only [go_sem, condL_b, bne, veq, veqs]
  generalize (x.x.toList == y.x.toList) = b0
  generalize (x.y.toList == y.y.toList) = b1
  generalize (x.z.toList == y.z.toList) = b2
  cases b0 <;> cases b1 <;> cases b2 <;> rfl

theorem r21 (x y : Mor) (hs : szT x.enc ≤ 1048576) : run EE 21 [x.enc, y.enc] [] = some (.bool (veq x.enc y.enc), []) := by
  have hs' := hs
  simp only [Rx.enc_eq, Vals.enc, Mor.enc, Sta.enc, Con.enc, Line.enc, Ans.enc, Prob.enc, Prog.enc, Ses.enc, szT, szL, List.length_map] at hs'
  rw [run_eq EE 21 _ _ Try.func21 (by decide +kernel) rfl (show 2 ≤ _ by decide)]
  dsimp only [Try.f21]
  simp only [go_sem, condL_b, bne, veq, veqs]
  generalize (x.a.toList == y.a.toList) = b0
  generalize (x.b.toList == y.b.toList) = b1
  generalize (x.c.toList == y.c.toList) = b2
  cases b0 <;> cases b1 <;> cases b2 <;> rfl

theorem r133 (x y : Con) (hs : szT x.enc ≤ 1048576) : run EE 133 [x.enc, y.enc] [] = some (.bool (veq x.enc y.enc), []) := by
  have hs' := hs
  simp only [Rx.enc_eq, Vals.enc, Mor.enc, Sta.enc, Con.enc, Line.enc, Ans.enc, Prob.enc, Prog.enc, Ses.enc, szT, szL, List.length_map] at hs'
  have q0 := r138 x.regex y.regex (by simp only [Rx.enc_eq, Vals.enc, Mor.enc, Sta.enc, Con.enc, Line.enc, Ans.enc, Prob.enc, Prog.enc, Ses.enc, szT, szL, List.length_map] at hs ⊢; omega)
  try simp only [Rx.enc_eq, Vals.enc, Mor.enc, Sta.enc, Con.enc, Line.enc, Ans.enc, Prob.enc, Prog.enc, Ses.enc] at q0
  have q1 := r60 x.coeffs y.coeffs (by simp only [Rx.enc_eq, Vals.enc, Mor.enc, Sta.enc, Con.enc, Line.enc, Ans.enc, Prob.enc, Prog.enc, Ses.enc, szT, szL, List.length_map] at hs; omega)
  try simp only [Rx.enc_eq, Vals.enc, Mor.enc, Sta.enc, Con.enc, Line.enc, Ans.enc, Prob.enc, Prog.enc, Ses.enc] at q1
  rw [run_eq EE 133 _ _ Try.func133 (by decide +kernel) rfl (show 2 ≤ _ by decide)]
  dsimp only [Try.f133]
  simp only [go_sem, condL_b, bne, q0, q1, veq, veqs]
  generalize (x.kind == y.kind) = b0
  generalize (x.left.toList == y.left.toList) = b1
  generalize (x.right.toList == y.right.toList) = b2
  generalize (x.regex.kind == y.regex.kind) = b3
  generalize (x.regex.letter.toList == y.regex.letter.toList) = b4
  generalize (veqs (x.regex.args.map Rx.enc) (y.regex.args.map Rx.enc)) = b5
  generalize (veqs (x.coeffs.map I) (y.coeffs.map I)) = b6
  generalize (x.bound == y.bound) = b7
  cases b0 <;> cases b1 <;> cases b2 <;> cases b3 <;> cases b4 <;> cases b5 <;> cases b6 <;> cases b7 <;> rfl

theorem r121 (l m : List Con) (hl : l.length ≤ 1048576) (hc : ∀ x ∈ l, ∀ y : Con, run EE 133 [x.enc, y.enc] [] = some (.bool (veq x.enc y.enc), [])) : run EE 121 [.slc false 8 (l.map Con.enc), .slc false 8 (m.map Con.enc)] [] = some (.bool (veqs (l.map Con.enc) (m.map Con.enc)), []) := by
  rw [run_eq EE 121 _ _ Try.func121 (by decide +kernel) rfl (show 2 ≤ _ by decide)]
  dsimp only [Try.f121]
  by_cases hn : l.length = m.length
  · have hn' : (l.length : Int) = m.length := by omega
    simp only [go_sem, hn', bne_self_eq_false]
    refine iter_inv (fun i : Nat => i ≤ l.length) (fun i => { t := upd (upd (upd (e0) 5 (.int .i64 i)) 1 (.slc false 8 (m.map Con.enc))) 0 (.slc false 8 (l.map Con.enc)), b := n0, o := [], r := #[ResultVar.tmp 4], f := 121, n := 27 }) (fun i => some (.bool (veqs ((l.drop i).map Con.enc) ((m.drop i).map Con.enc)), [])) (fun i => l.length - i) ?_ 0 (Nat.zero_le _)
    intro i hi ih
    by_cases h : i < l.length
    · have h1 : (i : Int) < l.length := by omega
      have h1' : (i : Int) < m.length := by omega
      have h' : i < m.length := by omega
      have w := wrap_nat (n := i) (by omega)
      have hx := hc l[i] (List.getElem_mem h) m[i]
      rw [List.drop_eq_getElem_cons h, List.drop_eq_getElem_cons h', List.map_cons, List.map_cons, veqs_cons]
      generalize veq l[i].enc m[i].enc = r at hx ⊢
      simp only [Rx.enc_eq, Vals.enc, Mor.enc, Sta.enc, Con.enc, Line.enc, Ans.enc, Prob.enc, Prog.enc, Ses.enc] at hx
      simp only [go_sem, h1, h1']
      rw [q_drawn]
      rotate_left
      · kernel_rfl
      simp only [go_sem, h1, h1', w, getD_map h, getD_map h', hx]
      cases r
      · simp only [go_sem, Bool.not_false, Bool.false_and]
      · simp only [go_sem, w, Bool.not_true, Bool.true_and]
        exact ih (i + 1) (by omega) (by omega)
    · have h1 : ¬ (i : Int) < l.length := by omega
      have h1' : ¬ (i : Int) < m.length := by omega
      have e1 : l.drop i = [] := List.drop_eq_nil_of_le (by omega)
      have e2 : m.drop i = [] := List.drop_eq_nil_of_le (by omega)
      simp only [go_sem, h1, h1', e1, e2, List.map_nil, veqs]
  · have hn' : ((l.length : Int) != m.length) = true := by simp; omega
    simp only [go_sem, hn']
    rw [veqs_ne (by simpa using hn)]

theorem r134 (x y : Line) (hs : szT x.enc ≤ 1048576) : run EE 134 [x.enc, y.enc] [] = some (.bool (veq x.enc y.enc), []) := by
  have hs' := hs
  simp only [Rx.enc_eq, Vals.enc, Mor.enc, Sta.enc, Con.enc, Line.enc, Ans.enc, Prob.enc, Prog.enc, Ses.enc, szT, szL, List.length_map] at hs'
  have q0 := r21 x.mor y.mor (by simp only [Rx.enc_eq, Vals.enc, Mor.enc, Sta.enc, Con.enc, Line.enc, Ans.enc, Prob.enc, Prog.enc, Ses.enc, szT, szL, List.length_map] at hs ⊢; omega)
  try simp only [Rx.enc_eq, Vals.enc, Mor.enc, Sta.enc, Con.enc, Line.enc, Ans.enc, Prob.enc, Prog.enc, Ses.enc] at q0
  have q1 := r138 x.regex y.regex (by simp only [Rx.enc_eq, Vals.enc, Mor.enc, Sta.enc, Con.enc, Line.enc, Ans.enc, Prob.enc, Prog.enc, Ses.enc, szT, szL, List.length_map] at hs ⊢; omega)
  try simp only [Rx.enc_eq, Vals.enc, Mor.enc, Sta.enc, Con.enc, Line.enc, Ans.enc, Prob.enc, Prog.enc, Ses.enc] at q1
  rw [run_eq EE 134 _ _ Try.func134 (by decide +kernel) rfl (show 2 ≤ _ by decide)]
  dsimp only [Try.f134]
  simp only [go_sem, condL_b, bne, q0, q1, veq, veqs]
  generalize (x.kind == y.kind) = b0
  generalize (x.text.toList == y.text.toList) = b1
  generalize (x.mor.a.toList == y.mor.a.toList) = b2
  generalize (x.mor.b.toList == y.mor.b.toList) = b3
  generalize (x.mor.c.toList == y.mor.c.toList) = b4
  generalize (x.regex.kind == y.regex.kind) = b5
  generalize (x.regex.letter.toList == y.regex.letter.toList) = b6
  generalize (veqs (x.regex.args.map Rx.enc) (y.regex.args.map Rx.enc)) = b7
  cases b0 <;> cases b1 <;> cases b2 <;> cases b3 <;> cases b4 <;> cases b5 <;> cases b6 <;> cases b7 <;> rfl

theorem r122 (l m : List Line) (hl : l.length ≤ 1048576) (hc : ∀ x ∈ l, ∀ y : Line, run EE 134 [x.enc, y.enc] [] = some (.bool (veq x.enc y.enc), [])) : run EE 122 [.slc false 8 (l.map Line.enc), .slc false 8 (m.map Line.enc)] [] = some (.bool (veqs (l.map Line.enc) (m.map Line.enc)), []) := by
  rw [run_eq EE 122 _ _ Try.func122 (by decide +kernel) rfl (show 2 ≤ _ by decide)]
  dsimp only [Try.f122]
  by_cases hn : l.length = m.length
  · have hn' : (l.length : Int) = m.length := by omega
    simp only [go_sem, hn', bne_self_eq_false]
    refine iter_inv (fun i : Nat => i ≤ l.length) (fun i => { t := upd (upd (upd (e0) 5 (.int .i64 i)) 1 (.slc false 8 (m.map Line.enc))) 0 (.slc false 8 (l.map Line.enc)), b := n0, o := [], r := #[ResultVar.tmp 4], f := 122, n := 27 }) (fun i => some (.bool (veqs ((l.drop i).map Line.enc) ((m.drop i).map Line.enc)), [])) (fun i => l.length - i) ?_ 0 (Nat.zero_le _)
    intro i hi ih
    by_cases h : i < l.length
    · have h1 : (i : Int) < l.length := by omega
      have h1' : (i : Int) < m.length := by omega
      have h' : i < m.length := by omega
      have w := wrap_nat (n := i) (by omega)
      have hx := hc l[i] (List.getElem_mem h) m[i]
      rw [List.drop_eq_getElem_cons h, List.drop_eq_getElem_cons h', List.map_cons, List.map_cons, veqs_cons]
      generalize veq l[i].enc m[i].enc = r at hx ⊢
      simp only [Rx.enc_eq, Vals.enc, Mor.enc, Sta.enc, Con.enc, Line.enc, Ans.enc, Prob.enc, Prog.enc, Ses.enc] at hx
      simp only [go_sem, h1, h1']
      rw [q_drawn]
      rotate_left
      · kernel_rfl
      simp only [go_sem, h1, h1', w, getD_map h, getD_map h', hx]
      cases r
      · simp only [go_sem, Bool.not_false, Bool.false_and]
      · simp only [go_sem, w, Bool.not_true, Bool.true_and]
        exact ih (i + 1) (by omega) (by omega)
    · have h1 : ¬ (i : Int) < l.length := by omega
      have h1' : ¬ (i : Int) < m.length := by omega
      have e1 : l.drop i = [] := List.drop_eq_nil_of_le (by omega)
      have e2 : m.drop i = [] := List.drop_eq_nil_of_le (by omega)
      simp only [go_sem, h1, h1', e1, e2, List.map_nil, veqs]
  · have hn' : ((l.length : Int) != m.length) = true := by simp; omega
    simp only [go_sem, hn']
    rw [veqs_ne (by simpa using hn)]

theorem r95 (x y : Ans) (hs : szT x.enc ≤ 1048576) : run EE 95 [x.enc, y.enc] [] = some (.bool (veq x.enc y.enc), []) := by
  have hs' := hs
  simp only [Rx.enc_eq, Vals.enc, Mor.enc, Sta.enc, Con.enc, Line.enc, Ans.enc, Prob.enc, Prog.enc, Ses.enc, szT, szL, List.length_map] at hs'
  have q0 := r63 x.vals y.vals (by simp only [Rx.enc_eq, Vals.enc, Mor.enc, Sta.enc, Con.enc, Line.enc, Ans.enc, Prob.enc, Prog.enc, Ses.enc, szT, szL, List.length_map] at hs ⊢; omega)
  try simp only [Rx.enc_eq, Vals.enc, Mor.enc, Sta.enc, Con.enc, Line.enc, Ans.enc, Prob.enc, Prog.enc, Ses.enc] at q0
  have q1 := r28 x.nodes y.nodes (by simp only [Rx.enc_eq, Vals.enc, Mor.enc, Sta.enc, Con.enc, Line.enc, Ans.enc, Prob.enc, Prog.enc, Ses.enc, szT, szL, List.length_map] at hs; omega) (fun z hz v => r29 z v (Nat.le_trans (szL_mem (f := Sta.enc) hz) (by simp only [Rx.enc_eq, Vals.enc, Mor.enc, Sta.enc, Con.enc, Line.enc, Ans.enc, Prob.enc, Prog.enc, Ses.enc, szT, szL, List.length_map] at hs; omega)))
  try simp only [Rx.enc_eq, Vals.enc, Mor.enc, Sta.enc, Con.enc, Line.enc, Ans.enc, Prob.enc, Prog.enc, Ses.enc] at q1
  rw [run_eq EE 95 _ _ Try.func95 (by decide +kernel) rfl (show 2 ≤ _ by decide)]
  dsimp only [Try.f95]
  simp only [go_sem, condL_b, bne, q0, q1, veq, veqs]
  generalize (x.code == y.code) = b0
  generalize (x.vals.x.toList == y.vals.x.toList) = b1
  generalize (x.vals.y.toList == y.vals.y.toList) = b2
  generalize (x.vals.z.toList == y.vals.z.toList) = b3
  generalize (veqs (x.nodes.map Sta.enc) (y.nodes.map Sta.enc)) = b4
  generalize (x.bound == y.bound) = b5
  cases b0 <;> cases b1 <;> cases b2 <;> cases b3 <;> cases b4 <;> cases b5 <;> rfl

theorem r94 (x y : Prob) (hs : szT x.enc ≤ 1048576) : run EE 94 [x.enc, y.enc] [] = some (.bool (veq x.enc y.enc), []) := by
  have hs' := hs
  simp only [Rx.enc_eq, Vals.enc, Mor.enc, Sta.enc, Con.enc, Line.enc, Ans.enc, Prob.enc, Prog.enc, Ses.enc, szT, szL, List.length_map] at hs'
  have q0 := r121 x.list y.list (by simp only [Rx.enc_eq, Vals.enc, Mor.enc, Sta.enc, Con.enc, Line.enc, Ans.enc, Prob.enc, Prog.enc, Ses.enc, szT, szL, List.length_map] at hs; omega) (fun z hz v => r133 z v (Nat.le_trans (szL_mem (f := Con.enc) hz) (by simp only [Rx.enc_eq, Vals.enc, Mor.enc, Sta.enc, Con.enc, Line.enc, Ans.enc, Prob.enc, Prog.enc, Ses.enc, szT, szL, List.length_map] at hs; omega)))
  try simp only [Rx.enc_eq, Vals.enc, Mor.enc, Sta.enc, Con.enc, Line.enc, Ans.enc, Prob.enc, Prog.enc, Ses.enc] at q0
  rw [run_eq EE 94 _ _ Try.func94 (by decide +kernel) rfl (show 2 ≤ _ by decide)]
  dsimp only [Try.f94]
  simp only [go_sem, condL_b, bne, q0, veq, veqs]
  generalize (veqs (x.list.map Con.enc) (y.list.map Con.enc)) = b0
  cases b0 <;> rfl

theorem r96 (x y : Prog) (hs : szT x.enc ≤ 1048576) : run EE 96 [x.enc, y.enc] [] = some (.bool (veq x.enc y.enc), []) := by
  have hs' := hs
  simp only [Rx.enc_eq, Vals.enc, Mor.enc, Sta.enc, Con.enc, Line.enc, Ans.enc, Prob.enc, Prog.enc, Ses.enc, szT, szL, List.length_map] at hs'
  have q0 := r122 x.lines y.lines (by simp only [Rx.enc_eq, Vals.enc, Mor.enc, Sta.enc, Con.enc, Line.enc, Ans.enc, Prob.enc, Prog.enc, Ses.enc, szT, szL, List.length_map] at hs; omega) (fun z hz v => r134 z v (Nat.le_trans (szL_mem (f := Line.enc) hz) (by simp only [Rx.enc_eq, Vals.enc, Mor.enc, Sta.enc, Con.enc, Line.enc, Ans.enc, Prob.enc, Prog.enc, Ses.enc, szT, szL, List.length_map] at hs; omega)))
  try simp only [Rx.enc_eq, Vals.enc, Mor.enc, Sta.enc, Con.enc, Line.enc, Ans.enc, Prob.enc, Prog.enc, Ses.enc] at q0
  rw [run_eq EE 96 _ _ Try.func96 (by decide +kernel) rfl (show 2 ≤ _ by decide)]
  dsimp only [Try.f96]
  simp only [go_sem, condL_b, bne, q0, veq, veqs]
  generalize (veqs (x.lines.map Line.enc) (y.lines.map Line.enc)) = b0
  cases b0 <;> rfl

theorem r46 (x y : Ses) (hs : szT x.enc ≤ 1048576) : run EE 46 [x.enc, y.enc] [] = some (.bool (veq x.enc y.enc), []) := by
  have hs' := hs
  simp only [Rx.enc_eq, Vals.enc, Mor.enc, Sta.enc, Con.enc, Line.enc, Ans.enc, Prob.enc, Prog.enc, Ses.enc, szT, szL, List.length_map] at hs'
  have q0 := r94 x.prob y.prob (by simp only [Rx.enc_eq, Vals.enc, Mor.enc, Sta.enc, Con.enc, Line.enc, Ans.enc, Prob.enc, Prog.enc, Ses.enc, szT, szL, List.length_map] at hs ⊢; omega)
  try simp only [Rx.enc_eq, Vals.enc, Mor.enc, Sta.enc, Con.enc, Line.enc, Ans.enc, Prob.enc, Prog.enc, Ses.enc] at q0
  have q1 := r95 x.ans y.ans (by simp only [Rx.enc_eq, Vals.enc, Mor.enc, Sta.enc, Con.enc, Line.enc, Ans.enc, Prob.enc, Prog.enc, Ses.enc, szT, szL, List.length_map] at hs ⊢; omega)
  try simp only [Rx.enc_eq, Vals.enc, Mor.enc, Sta.enc, Con.enc, Line.enc, Ans.enc, Prob.enc, Prog.enc, Ses.enc] at q1
  have q2 := r96 x.prog y.prog (by simp only [Rx.enc_eq, Vals.enc, Mor.enc, Sta.enc, Con.enc, Line.enc, Ans.enc, Prob.enc, Prog.enc, Ses.enc, szT, szL, List.length_map] at hs ⊢; omega)
  try simp only [Rx.enc_eq, Vals.enc, Mor.enc, Sta.enc, Con.enc, Line.enc, Ans.enc, Prob.enc, Prog.enc, Ses.enc] at q2
  rw [run_eq EE 46 _ _ Try.func46 (by decide +kernel) rfl (show 2 ≤ _ by decide)]
  dsimp only [Try.f46]
  simp only [go_sem, condL_b, bne, q0, q1, q2, veq, veqs]
  generalize (veqs (x.prob.list.map Con.enc) (y.prob.list.map Con.enc)) = b0
  generalize (x.ans.code == y.ans.code) = b1
  generalize (x.ans.vals.x.toList == y.ans.vals.x.toList) = b2
  generalize (x.ans.vals.y.toList == y.ans.vals.y.toList) = b3
  generalize (x.ans.vals.z.toList == y.ans.vals.z.toList) = b4
  generalize (veqs (x.ans.nodes.map Sta.enc) (y.ans.nodes.map Sta.enc)) = b5
  generalize (x.ans.bound == y.ans.bound) = b6
  generalize (veqs (x.prog.lines.map Line.enc) (y.prog.lines.map Line.enc)) = b7
  cases b0 <;> cases b1 <;> cases b2 <;> cases b3 <;> cases b4 <;> cases b5 <;> cases b6 <;> cases b7 <;> rfl
end Go.Ev
