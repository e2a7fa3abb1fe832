/- The reference's comparisons. -/
import Derived.Test.YtdepiibcopbjlaaEvEnv
import Derived.Test.YtdepiibcopbjlaaEvData
import Derived.Test.YtdepiibcopbjlaaEvZ4
namespace Go.Ev
open Go Go.Proofs
set_option maxRecDepth 10000
set_option linter.unusedVariables false
set_option linter.unusedSimpArgs false
theorem r115 (x y : Rx) (hs : szT x.enc ≤ 1048576) : run EE 115 [x.enc, y.enc] [] = some (.bool (veq x.enc y.enc), []) := by
  have hs' := hs
  simp only [Rx.enc_eq, Vals.enc, Mor.enc, Sta.enc, Con.enc, Line.enc, Ans.enc, Prob.enc, Prog.enc, Ses.enc, szT, szL, List.length_map] at hs'
  have hc : ∀ z ∈ x.args, ∀ v : Rx, run EE 115 [z.enc, v.enc] [] = some (.bool (veq z.enc v.enc), []) := fun z hz v => r115 z v (Nat.le_trans (szL_mem (f := Rx.enc) hz) (by omega))
  have hv : veq x.enc y.enc = ((x.kind == y.kind) && ((x.letter.toList == y.letter.toList) && veqs (x.args.map Rx.enc) (y.args.map Rx.enc))) := by
    simp only [Rx.enc_eq, Vals.enc, Mor.enc, Sta.enc, Con.enc, Line.enc, Ans.enc, Prob.enc, Prog.enc, Ses.enc, veq, veqs, Bool.and_true]
  rw [hv]
  clear hv
  rw [run_eq EE 115 _ _ Try.func115 (by decide +kernel) rfl (show 2 ≤ _ by decide)]
  dsimp only [Try.f115]
  by_cases k1 : (x.kind == y.kind) = true
  rotate_left
  · have k1' : (x.kind == y.kind) = false := by simpa using k1
    simp only [go_sem, bne, k1', Bool.not_false, Bool.false_and]
  by_cases k2 : (x.letter.toList == y.letter.toList) = true
  rotate_left
  · have k2' : (x.letter.toList == y.letter.toList) = false := by simpa using k2
    simp only [go_sem, bne, k1, k2', Bool.not_false, Bool.not_true, Bool.false_and, Bool.and_false]
  by_cases hn : x.args.length = y.args.length
  rotate_left
  · have hn' : ((x.args.length : Int) == y.args.length) = false := by simp; omega
    have hv : veqs (x.args.map Rx.enc) (y.args.map Rx.enc) = false := veqs_ne (by simpa using hn)
    simp only [go_sem, bne, k1, k2, hn', hv, Bool.not_false, Bool.not_true, Bool.false_and, Bool.and_false]
  · have hn' : ((x.args.length : Int) == y.args.length) = true := by simp; omega
    simp only [go_sem, bne, k1, k2, hn', Bool.not_true, Bool.true_and]
    refine iter_inv (fun i : Nat => i ≤ x.args.length) (fun i => { t := upd (upd (upd (e0) 5 (.int .i64 i)) 3 (.ptr 0 3 0)) 2 (.ptr 0 2 0), b := upd (upd (n0) 3 (some (Ob.box [.int .i64 y.kind, .str y.letter, .slc false 3 (y.args.map Rx.enc)]))) 2 (some (Ob.box [.int .i64 x.kind, .str x.letter, .slc false 3 (x.args.map Rx.enc)])), o := [], r := #[ResultVar.tmp 4], f := 115, n := 46 }) (fun i => some (.bool (veqs ((x.args.drop i).map Rx.enc) ((y.args.drop i).map Rx.enc)), [])) (fun i => x.args.length - i) ?_ 0 (Nat.zero_le _)
    intro i hi ih
    by_cases h : i < x.args.length
    · have h1 : (i : Int) < x.args.length := by omega
      have h1' : (i : Int) < y.args.length := by omega
      have h' : i < y.args.length := by omega
      have w := wrap_nat (n := i) (by omega)
      rw [List.drop_eq_getElem_cons h, List.drop_eq_getElem_cons h', List.map_cons, List.map_cons, veqs_cons]
      have hx := hc x.args[i] (List.getElem_mem h) y.args[i]
      generalize veq x.args[i].enc y.args[i].enc = r at hx ⊢
      simp only [Rx.enc_eq, Vals.enc, Mor.enc, Sta.enc, Con.enc, Line.enc, Ans.enc, Prob.enc, Prog.enc, Ses.enc] at hx
      simp only [go_sem, h1, h1']
      rw [q_drawn]
      rotate_left
      · kernel_rfl
      simp only [go_sem, h1, h1', w, getD_map h, getD_map h', hx]
      cases r
      · simp only [go_sem, Bool.not_false, Bool.false_and]
      · simp only [go_sem, w, Bool.not_true, Bool.true_and]
        exact ih (i + 1) (by omega) (by omega)
    · have h1 : ¬ (i : Int) < x.args.length := by omega
      have h1' : ¬ (i : Int) < y.args.length := by omega
      have e1 : x.args.drop i = [] := List.drop_eq_nil_of_le (by omega)
      have e2 : y.args.drop i = [] := List.drop_eq_nil_of_le (by omega)
      simp only [go_sem, h1, h1', e1, e2, List.map_nil, veqs]
  termination_by SizeOf.sizeOf x
  decreasing_by exact Rx.lt _ hz

theorem r114 (x y : Con) (hs : szT x.enc ≤ 1048576) : run EE 114 [x.enc, y.enc] [] = some (.bool (veq x.enc y.enc), []) := by
  have hs' := hs
  simp only [Rx.enc_eq, Vals.enc, Mor.enc, Sta.enc, Con.enc, Line.enc, Ans.enc, Prob.enc, Prog.enc, Ses.enc, szT, szL, List.length_map] at hs'
  have q0 := r115 x.regex y.regex (by simp only [Rx.enc_eq, Vals.enc, Mor.enc, Sta.enc, Con.enc, Line.enc, Ans.enc, Prob.enc, Prog.enc, Ses.enc, szT, szL, List.length_map] at hs ⊢; omega)
  try simp only [Rx.enc_eq, Vals.enc, Mor.enc, Sta.enc, Con.enc, Line.enc, Ans.enc, Prob.enc, Prog.enc, Ses.enc] at q0
  have q1 := r99 x.coeffs y.coeffs (by simp only [Rx.enc_eq, Vals.enc, Mor.enc, Sta.enc, Con.enc, Line.enc, Ans.enc, Prob.enc, Prog.enc, Ses.enc, szT, szL, List.length_map] at hs; omega)
  try simp only [Rx.enc_eq, Vals.enc, Mor.enc, Sta.enc, Con.enc, Line.enc, Ans.enc, Prob.enc, Prog.enc, Ses.enc] at q1
  rw [run_eq EE 114 _ _ Try.func114 (by decide +kernel) rfl (show 2 ≤ _ by decide)]
  dsimp only [Try.f114]
  have hv : veq x.enc y.enc = ((x.kind == y.kind) && ((x.left.toList == y.left.toList) && ((x.right.toList == y.right.toList) && (veq x.regex.enc y.regex.enc && ((veqs (x.coeffs.map I) (y.coeffs.map I)) && ((x.bound == y.bound))))))) := by
    simp only [Rx.enc_eq, Vals.enc, Mor.enc, Sta.enc, Con.enc, Line.enc, Ans.enc, Prob.enc, Prog.enc, Ses.enc, veq, veqs]
    generalize (x.kind == y.kind) = b0
    generalize (x.left.toList == y.left.toList) = b1
    generalize (x.right.toList == y.right.toList) = b2
    generalize (x.regex.kind == y.regex.kind) = b3
    generalize (x.regex.letter.toList == y.regex.letter.toList) = b4
    generalize (veqs (x.regex.args.map Rx.enc) (y.regex.args.map Rx.enc)) = b5
    generalize (veqs (x.coeffs.map I) (y.coeffs.map I)) = b6
    generalize (x.bound == y.bound) = b7
    cases b0 <;> cases b1 <;> cases b2 <;> cases b3 <;> cases b4 <;> cases b5 <;> cases b6 <;> cases b7 <;> rfl
  rw [hv]
  clear hv
  simp only [go_sem, q0, q1]
  repeat (first | refine guardL_bool (fun c => ?_) (fun c => ?_) <;> simp only [go_sem, q0, q1, c] | refine condL_bool (fun c => ?_) (fun c => ?_) <;> simp only [go_sem, q0, q1, c])
  all_goals (try simp only [*, Bool.true_and, Bool.false_and])

theorem r84 (x y : Prob) (hs : szT x.enc ≤ 1048576) : run EE 84 [x.enc, y.enc] [] = some (.bool (veq x.enc y.enc), []) := by
  have hs' := hs
  simp only [Rx.enc_eq, Vals.enc, Mor.enc, Sta.enc, Con.enc, Line.enc, Ans.enc, Prob.enc, Prog.enc, Ses.enc, szT, szL, List.length_map] at hs'
  rw [run_eq EE 84 _ _ Try.func84 (by decide +kernel) rfl (show 2 ≤ _ by decide)]
  dsimp only [Try.f84]
  have hv : veq x.enc y.enc = veqs (x.list.map Con.enc) (y.list.map Con.enc) := by
    simp only [Rx.enc_eq, Vals.enc, Mor.enc, Sta.enc, Con.enc, Line.enc, Ans.enc, Prob.enc, Prog.enc, Ses.enc, veq, veqs, Bool.and_true]
  rw [hv]
  clear hv
  by_cases hn : x.list.length = y.list.length
  rotate_left
  · have hn' : ((x.list.length : Int) == y.list.length) = false := by simp; omega
    have hv : veqs (x.list.map Con.enc) (y.list.map Con.enc) = false := veqs_ne (by simpa using hn)
    simp only [go_sem, bne, hn', hv, Bool.not_false]
  · have hn' : ((x.list.length : Int) == y.list.length) = true := by simp; omega
    simp only [go_sem, bne, hn', Bool.not_true]
    refine iter_inv (fun i : Nat => i ≤ x.list.length) (fun i => { t := upd (upd (upd (e0) 5 (.int .i64 i)) 3 (.ptr 0 3 0)) 2 (.ptr 0 2 0), b := upd (upd (n0) 3 (some (Ob.box [.slc false 8 (y.list.map Con.enc)]))) 2 (some (Ob.box [.slc false 8 (x.list.map Con.enc)])), o := [], r := #[ResultVar.tmp 4], f := 84, n := 32 }) (fun i => some (.bool (veqs ((x.list.drop i).map Con.enc) ((y.list.drop i).map Con.enc)), [])) (fun i => x.list.length - i) ?_ 0 (Nat.zero_le _)
    intro i hi ih
    by_cases h : i < x.list.length
    · have h1 : (i : Int) < x.list.length := by omega
      have h1' : (i : Int) < y.list.length := by omega
      have h' : i < y.list.length := by omega
      have w := wrap_nat (n := i) (by omega)
      rw [List.drop_eq_getElem_cons h, List.drop_eq_getElem_cons h', List.map_cons, List.map_cons, veqs_cons]
      have hx := r114 x.list[i] y.list[i] (Nat.le_trans (szL_mem (f := Con.enc) (List.getElem_mem h)) (by omega))
      generalize veq x.list[i].enc y.list[i].enc = r at hx ⊢
      simp only [Rx.enc_eq, Vals.enc, Mor.enc, Sta.enc, Con.enc, Line.enc, Ans.enc, Prob.enc, Prog.enc, Ses.enc] at hx
      simp only [go_sem, h1, h1']
      rw [q_drawn]
      rotate_left
      · kernel_rfl
      simp only [go_sem, h1, h1', w, getD_map h, getD_map h', hx]
      cases r
      · simp only [go_sem, Bool.not_false, Bool.false_and]
      · simp only [go_sem, w, Bool.not_true, Bool.true_and]
        exact ih (i + 1) (by omega) (by omega)
    · have h1 : ¬ (i : Int) < x.list.length := by omega
      have h1' : ¬ (i : Int) < y.list.length := by omega
      have e1 : x.list.drop i = [] := List.drop_eq_nil_of_le (by omega)
      have e2 : y.list.drop i = [] := List.drop_eq_nil_of_le (by omega)
      simp only [go_sem, h1, h1', e1, e2, List.map_nil, veqs]

theorem r85 (x y : Ans) (hs : szT x.enc ≤ 1048576) : run EE 85 [x.enc, y.enc] [] = some (.bool (veq x.enc y.enc), []) := by
  have hs' := hs
  simp only [Rx.enc_eq, Vals.enc, Mor.enc, Sta.enc, Con.enc, Line.enc, Ans.enc, Prob.enc, Prog.enc, Ses.enc, szT, szL, List.length_map] at hs'
  have q0 := r61 x.nodes y.nodes (by simp only [Rx.enc_eq, Vals.enc, Mor.enc, Sta.enc, Con.enc, Line.enc, Ans.enc, Prob.enc, Prog.enc, Ses.enc, szT, szL, List.length_map] at hs; omega) (fun z hz v => r55 z v (Nat.le_trans (szL_mem (f := Sta.enc) hz) (by simp only [Rx.enc_eq, Vals.enc, Mor.enc, Sta.enc, Con.enc, Line.enc, Ans.enc, Prob.enc, Prog.enc, Ses.enc, szT, szL, List.length_map] at hs; omega)))
  try simp only [Rx.enc_eq, Vals.enc, Mor.enc, Sta.enc, Con.enc, Line.enc, Ans.enc, Prob.enc, Prog.enc, Ses.enc] at q0
  rw [run_eq EE 85 _ _ Try.func85 (by decide +kernel) rfl (show 2 ≤ _ by decide)]
  dsimp only [Try.f85]
  have hv : veq x.enc y.enc = ((x.code == y.code) && (((x.vals.x.toList == y.vals.x.toList) && ((x.vals.y.toList == y.vals.y.toList) && ((x.vals.z.toList == y.vals.z.toList) && (true)))) && ((x.bound == y.bound) && ((veqs (x.nodes.map Sta.enc) (y.nodes.map Sta.enc)))))) := by
    simp only [Rx.enc_eq, Vals.enc, Mor.enc, Sta.enc, Con.enc, Line.enc, Ans.enc, Prob.enc, Prog.enc, Ses.enc, veq, veqs]
    generalize (x.code == y.code) = b0
    generalize (x.vals.x.toList == y.vals.x.toList) = b1
    generalize (x.vals.y.toList == y.vals.y.toList) = b2
    generalize (x.vals.z.toList == y.vals.z.toList) = b3
    generalize (veqs (x.nodes.map Sta.enc) (y.nodes.map Sta.enc)) = b4
    generalize (x.bound == y.bound) = b5
    cases b0 <;> cases b1 <;> cases b2 <;> cases b3 <;> cases b4 <;> cases b5 <;> rfl
  rw [hv]
  clear hv
  simp only [go_sem, q0]
  repeat (first | refine guardL_bool (fun c => ?_) (fun c => ?_) <;> simp only [go_sem, q0, c] | refine condL_bool (fun c => ?_) (fun c => ?_) <;> simp only [go_sem, q0, c])
  all_goals (try simp only [*, Bool.true_and, Bool.false_and])

theorem r86 (x y : Prog) (hs : szT x.enc ≤ 1048576) : run EE 86 [x.enc, y.enc] [] = some (.bool (veq x.enc y.enc), []) := by
  have hs' := hs
  simp only [Rx.enc_eq, Vals.enc, Mor.enc, Sta.enc, Con.enc, Line.enc, Ans.enc, Prob.enc, Prog.enc, Ses.enc, szT, szL, List.length_map] at hs'
  rw [run_eq EE 86 _ _ Try.func86 (by decide +kernel) rfl (show 2 ≤ _ by decide)]
  dsimp only [Try.f86]
  have hv : veq x.enc y.enc = veqs (x.lines.map Line.enc) (y.lines.map Line.enc) := by
    simp only [Rx.enc_eq, Vals.enc, Mor.enc, Sta.enc, Con.enc, Line.enc, Ans.enc, Prob.enc, Prog.enc, Ses.enc, veq, veqs, Bool.and_true]
  rw [hv]
  clear hv
  by_cases hn : x.lines.length = y.lines.length
  rotate_left
  · have hn' : ((x.lines.length : Int) == y.lines.length) = false := by simp; omega
    have hv : veqs (x.lines.map Line.enc) (y.lines.map Line.enc) = false := veqs_ne (by simpa using hn)
    simp only [go_sem, bne, hn', hv, Bool.not_false]
  · have hn' : ((x.lines.length : Int) == y.lines.length) = true := by simp; omega
    simp only [go_sem, bne, hn', Bool.not_true]
    refine iter_inv (fun i : Nat => i ≤ x.lines.length) (fun i => { t := upd (upd (upd (e0) 5 (.int .i64 i)) 3 (.ptr 0 3 0)) 2 (.ptr 0 2 0), b := upd (upd (n0) 3 (some (Ob.box [.slc false 8 (y.lines.map Line.enc)]))) 2 (some (Ob.box [.slc false 8 (x.lines.map Line.enc)])), o := [], r := #[ResultVar.tmp 4], f := 86, n := 59 }) (fun i => some (.bool (veqs ((x.lines.drop i).map Line.enc) ((y.lines.drop i).map Line.enc)), [])) (fun i => x.lines.length - i) ?_ 0 (Nat.zero_le _)
    intro i hi ih
    by_cases h : i < x.lines.length
    · have h1 : (i : Int) < x.lines.length := by omega
      have h1' : (i : Int) < y.lines.length := by omega
      have h' : i < y.lines.length := by omega
      have w := wrap_nat (n := i) (by omega)
      rw [List.drop_eq_getElem_cons h, List.drop_eq_getElem_cons h', List.map_cons, List.map_cons, veqs_cons]
      have hv : veq x.lines[i].enc y.lines[i].enc = ((x.lines[i].kind == y.lines[i].kind) && ((x.lines[i].text.toList == y.lines[i].text.toList) && (((x.lines[i].mor.a.toList == y.lines[i].mor.a.toList) && ((x.lines[i].mor.b.toList == y.lines[i].mor.b.toList) && ((x.lines[i].mor.c.toList == y.lines[i].mor.c.toList)))) && (veq x.lines[i].regex.enc y.lines[i].regex.enc)))) := by
        simp only [Rx.enc_eq, Vals.enc, Mor.enc, Sta.enc, Con.enc, Line.enc, Ans.enc, Prob.enc, Prog.enc, Ses.enc, veq, veqs]
        generalize (x.lines[i].kind == y.lines[i].kind) = b0
        generalize (x.lines[i].text.toList == y.lines[i].text.toList) = b1
        generalize (x.lines[i].mor.a.toList == y.lines[i].mor.a.toList) = b2
        generalize (x.lines[i].mor.b.toList == y.lines[i].mor.b.toList) = b3
        generalize (x.lines[i].mor.c.toList == y.lines[i].mor.c.toList) = b4
        generalize (x.lines[i].regex.kind == y.lines[i].regex.kind) = b5
        generalize (x.lines[i].regex.letter.toList == y.lines[i].regex.letter.toList) = b6
        generalize (veqs (x.lines[i].regex.args.map Rx.enc) (y.lines[i].regex.args.map Rx.enc)) = b7
        cases b0 <;> cases b1 <;> cases b2 <;> cases b3 <;> cases b4 <;> cases b5 <;> cases b6 <;> cases b7 <;> rfl
      have hx := r115 x.lines[i].regex y.lines[i].regex (by have := szL_mem (f := Line.enc) (List.getElem_mem h); simp only [Rx.enc_eq, Vals.enc, Mor.enc, Sta.enc, Con.enc, Line.enc, Ans.enc, Prob.enc, Prog.enc, Ses.enc, szT, szL, List.length_map] at this ⊢; omega)
      rw [hv]
      clear hv
      simp only [Rx.enc_eq, Vals.enc, Mor.enc, Sta.enc, Con.enc, Line.enc, Ans.enc, Prob.enc, Prog.enc, Ses.enc] at hx ⊢
      generalize e : veq (.agg [.int .i64 x.lines[i].regex.kind, .str x.lines[i].regex.letter, .slc false 3 (x.lines[i].regex.args.map Rx.enc)]) (.agg [.int .i64 y.lines[i].regex.kind, .str y.lines[i].regex.letter, .slc false 3 (y.lines[i].regex.args.map Rx.enc)]) = r at hx ⊢
      by_cases k1 : (x.lines[i].kind == y.lines[i].kind) = true
      rotate_left
      · have k1' : (x.lines[i].kind == y.lines[i].kind) = false := by simpa using k1
        simp only [go_sem, h1, h1', w, getD_map h, getD_map h', hx, bne, k1', Bool.not_false, Bool.false_and]
      by_cases k2 : (x.lines[i].text.toList == y.lines[i].text.toList) = true
      rotate_left
      · have k2' : (x.lines[i].text.toList == y.lines[i].text.toList) = false := by simpa using k2
        simp only [go_sem, h1, h1', w, getD_map h, getD_map h', hx, bne, k1, k2', Bool.not_false, Bool.not_true, Bool.true_and, Bool.false_and]
      by_cases k3 : ((x.lines[i].mor.a.toList == y.lines[i].mor.a.toList) && ((x.lines[i].mor.b.toList == y.lines[i].mor.b.toList) && ((x.lines[i].mor.c.toList == y.lines[i].mor.c.toList)))) = true
      rotate_left
      · have k3' : ((x.lines[i].mor.a.toList == y.lines[i].mor.a.toList) && ((x.lines[i].mor.b.toList == y.lines[i].mor.b.toList) && ((x.lines[i].mor.c.toList == y.lines[i].mor.c.toList)))) = false := Bool.eq_false_iff.2 k3
        simp only [go_sem, h1, h1', w, getD_map h, getD_map h', hx, bne, k1, k2, k3', Bool.not_false, Bool.not_true, Bool.true_and, Bool.false_and]
      cases r
      · simp only [go_sem, h1, h1', w, getD_map h, getD_map h', hx, bne, k1, k2, k3, Bool.not_false, Bool.not_true, Bool.true_and, Bool.false_and]
      · simp only [go_sem, h1, h1', w, getD_map h, getD_map h', hx, bne, k1, k2, k3, Bool.not_false, Bool.not_true, Bool.true_and]
        exact ih (i + 1) (by omega) (by omega)
    · have h1 : ¬ (i : Int) < x.lines.length := by omega
      have h1' : ¬ (i : Int) < y.lines.length := by omega
      have e1 : x.lines.drop i = [] := List.drop_eq_nil_of_le (by omega)
      have e2 : y.lines.drop i = [] := List.drop_eq_nil_of_le (by omega)
      simp only [go_sem, h1, h1', e1, e2, List.map_nil, veqs]

theorem r43 (x y : Ses) (hs : szT x.enc ≤ 1048576) : run EE 43 [x.enc, y.enc] [] = some (.bool (veq x.enc y.enc), []) := by
  have hs' := hs
  simp only [Rx.enc_eq, Vals.enc, Mor.enc, Sta.enc, Con.enc, Line.enc, Ans.enc, Prob.enc, Prog.enc, Ses.enc, szT, szL, List.length_map] at hs'
  have q0 := r84 x.prob y.prob (by simp only [Rx.enc_eq, Vals.enc, Mor.enc, Sta.enc, Con.enc, Line.enc, Ans.enc, Prob.enc, Prog.enc, Ses.enc, szT, szL, List.length_map] at hs ⊢; omega)
  try simp only [Rx.enc_eq, Vals.enc, Mor.enc, Sta.enc, Con.enc, Line.enc, Ans.enc, Prob.enc, Prog.enc, Ses.enc] at q0
  have q1 := r85 x.ans y.ans (by simp only [Rx.enc_eq, Vals.enc, Mor.enc, Sta.enc, Con.enc, Line.enc, Ans.enc, Prob.enc, Prog.enc, Ses.enc, szT, szL, List.length_map] at hs ⊢; omega)
  try simp only [Rx.enc_eq, Vals.enc, Mor.enc, Sta.enc, Con.enc, Line.enc, Ans.enc, Prob.enc, Prog.enc, Ses.enc] at q1
  have q2 := r86 x.prog y.prog (by simp only [Rx.enc_eq, Vals.enc, Mor.enc, Sta.enc, Con.enc, Line.enc, Ans.enc, Prob.enc, Prog.enc, Ses.enc, szT, szL, List.length_map] at hs ⊢; omega)
  try simp only [Rx.enc_eq, Vals.enc, Mor.enc, Sta.enc, Con.enc, Line.enc, Ans.enc, Prob.enc, Prog.enc, Ses.enc] at q2
  rw [run_eq EE 43 _ _ Try.func43 (by decide +kernel) rfl (show 2 ≤ _ by decide)]
  dsimp only [Try.f43]
  have hv : veq x.enc y.enc = (veq x.prob.enc y.prob.enc && (veq x.ans.enc y.ans.enc && (veq x.prog.enc y.prog.enc))) := by
    simp only [Rx.enc_eq, Vals.enc, Mor.enc, Sta.enc, Con.enc, Line.enc, Ans.enc, Prob.enc, Prog.enc, Ses.enc, veq, veqs]
    generalize (veqs (x.prob.list.map Con.enc) (y.prob.list.map Con.enc)) = b0
    generalize (x.ans.code == y.ans.code) = b1
    generalize (x.ans.vals.x.toList == y.ans.vals.x.toList) = b2
    generalize (x.ans.vals.y.toList == y.ans.vals.y.toList) = b3
    generalize (x.ans.vals.z.toList == y.ans.vals.z.toList) = b4
    generalize (veqs (x.ans.nodes.map Sta.enc) (y.ans.nodes.map Sta.enc)) = b5
    generalize (x.ans.bound == y.ans.bound) = b6
    generalize (veqs (x.prog.lines.map Line.enc) (y.prog.lines.map Line.enc)) = b7
    cases b0 <;> cases b1 <;> cases b2 <;> cases b3 <;> cases b4 <;> cases b5 <;> cases b6 <;> cases b7 <;> rfl
  rw [hv]
  clear hv
  simp only [go_sem, q0, q1, q2]
  repeat (first | refine guardL_bool (fun c => ?_) (fun c => ?_) <;> simp only [go_sem, q0, q1, q2, c] | refine condL_bool (fun c => ?_) (fun c => ?_) <;> simp only [go_sem, q0, q1, q2, c])
  all_goals (try simp only [*, Bool.true_and, Bool.false_and])
end Go.Ev
