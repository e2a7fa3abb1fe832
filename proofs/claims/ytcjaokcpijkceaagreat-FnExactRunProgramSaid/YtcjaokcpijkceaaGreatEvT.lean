/- Sizes. Copies. Comparisons. The law of RunProgram. Typed cells as the laws' data. -/
import Derived.Test.YtcjaokcpijkceaaGreatProg
import Derived.Test.YtcjaokcpijkceaaGreatEvO
import Derived.Test.YtcjaokcpijkceaaGreatEvJ
import Derived.Test.YtcjaokcpijkceaaGreatEvK
import Derived.Test.YtcjaokcpijkceaaGreatEvS
import Derived.Test.YtcjaokcpijkceaaGreatEvM
set_option linter.unusedVariables false
set_option linter.unusedSimpArgs false
namespace Go.Ev
open Go Go.Proofs
set_option maxRecDepth 10000
set_option linter.unusedVariables false
set_option linter.unusedSimpArgs false
theorem r246 (l : List Rx) (hl : l.length ≤ 9223372036854775807) (hc : ∀ x ∈ l, ∀ left : Int, 0 ≤ left → left ≤ 1048576 → run EE 185 [(Rx.enc x), .int .i64 left] [] = some (.int .i64 (szR (Rx.enc x) left), [])) (left : Int) (h0 : 0 ≤ left) (h1 : left ≤ 1048576) : run EE 246 [.slc false 3 (l.map Rx.enc), .int .i64 left] [] = some (.int .i64 (szR (.slc false 3 (l.map Rx.enc)) left), []) := by
  rw [run_eq EE 246 _ _ Tryz.func246 (by decide +kernel) rfl (show 2 ≤ _ by decide)]
  dsimp only [Tryz.f246]
  have w := wrap_in (n := left - (l.length : Int)) (by omega) (by omega)
  simp only [go_sem, w]
  have e : szR (.slc false 3 (l.map Rx.enc)) left = leftOf (l.length + szL (l.map Rx.enc)) left := by simp only [szR, szT, List.length_map]
  rw [e]
  refine condL_dec (fun c => ?_) (fun c => ?_)
  · simp only [go_sem]
    rw [leftOf_neg (by omega)]
  simp only [go_sem]
  refine (iter_inv (fun x : Nat × Int => x.1 ≤ l.length ∧ 0 ≤ x.2 ∧ x.2 ≤ 1048576) (fun x => { t := upd (upd (upd (e0) 5 (.int .i64 x.1)) 1 (.int .i64 x.2)) 0 (.slc false 3 (l.map Rx.enc)), b := n0, o := [], r := #[ResultVar.tmp 4], f := 246, n := 27 }) (fun x => some (.int .i64 (szRL ((l.drop x.1).map Rx.enc) x.2), [])) (fun x => l.length - x.1) ?_ (0, left - (l.length : Int)) ⟨Nat.zero_le _, by show 0 ≤ left - (l.length : Int); omega, by show left - (l.length : Int) ≤ 1048576; omega⟩).trans ?_
  · rintro ⟨i, left⟩ ⟨hi, a0, a1⟩ ih
    dsimp only at hi a0 a1 ⊢
    by_cases h : i < l.length
    · have k1 : (i : Int) < l.length := by omega
      have w := wrap_nat (n := i) (by omega)
      have hx := hc l[i] (List.getElem_mem h) left a0 a1
      rw [List.drop_eq_getElem_cons h, List.map_cons, szRL_cons]
      have hle : szR (Rx.enc l[i]) left ≤ left ∨ szR (Rx.enc l[i]) left = -1 := by unfold szR leftOf; split <;> omega
      generalize szR (Rx.enc l[i]) left = r at hx hle ⊢
      simp only [Rx.enc_eq, Vals.enc, Mor.enc, Sta.enc, Con.enc, Line.enc, Ans.enc, Prob.enc, Prog.enc, Ses.enc, Equ.enc, Mon.enc, Frm.enc, Mov.enc, Stp.enc, Dfa.enc, IL, I, B] at hx
      simp only [go_sem, k1, w, getD_map h, hx]
      refine condL_dec (fun c => ?_) (fun c => ?_)
      · simp only [go_sem]
        rw [if_pos c]
      · simp only [go_sem, w]
        rw [if_neg c]
        exact ih (i + 1, r) ⟨by show i + 1 ≤ l.length; omega, by show 0 ≤ r; omega, by show r ≤ 1048576; omega⟩ (by show l.length - (i + 1) < l.length - i; omega)
    · have k1 : ¬ (i : Int) < l.length := by omega
      simp only [go_sem, k1]
      rw [List.drop_eq_nil_of_le (by omega)]
      show _ = some (V.int .i64 (leftOf 0 left), [])
      rw [leftOf_pos (by omega)]
      simp
  · show some (V.int .i64 (leftOf (szL (l.map Rx.enc)) (left - (l.length : Int))), []) = _
    by_cases h : (szL (l.map Rx.enc) : Int) ≤ left - l.length
    · rw [leftOf_pos h, leftOf_pos (by omega)]
      refine congrArg some (congrArg (·, []) (congrArg (V.int .i64) ?_))
      omega
    · rw [leftOf_neg h, leftOf_neg (by omega)]

theorem r185 (x : Rx) (ho : okV x.enc) (left : Int) (h0 : 0 ≤ left) (h1 : left ≤ 1048576) : run EE 185 [x.enc, .int .i64 left] [] = some (.int .i64 (szR x.enc left), []) := by
  have ho' := ho
  simp only [Rx.enc_eq, Vals.enc, Mor.enc, Sta.enc, Con.enc, Line.enc, Ans.enc, Prob.enc, Prog.enc, Ses.enc, Equ.enc, Mon.enc, Frm.enc, Mov.enc, Stp.enc, Dfa.enc, IL, I, B, okV, okL, and_true, true_and, List.length_map] at ho'
  have hc : ∀ z ∈ x.args, ∀ left : Int, 0 ≤ left → left ≤ 1048576 → run EE 185 [z.enc, .int .i64 left] [] = some (.int .i64 (szR z.enc left), []) := fun z hz left a b => r185 z (okL_map ho'.2.2.2 hz) left a b
  rw [run_eq EE 185 _ _ Tryz.func185 (by decide +kernel) rfl (show 2 ≤ _ by decide)]
  dsimp only [Tryz.f185]
  have e : szR x.enc left = leftOf (szT x.enc) left := rfl
  rw [e]
  simp only [Rx.enc_eq, Vals.enc, Mor.enc, Sta.enc, Con.enc, Line.enc, Ans.enc, Prob.enc, Prog.enc, Ses.enc, Equ.enc, Mon.enc, Frm.enc, Mov.enc, Stp.enc, Dfa.enc, IL, I, B, szT, szL, List.length_map]
  have w1 := wrap_in (n := left - ((x.letter).size : Int)) (by omega) (by omega)
  simp only [go_sem, w1]
  refine condL_dec (fun c1 => ?_) (fun c1 => ?_)
  · simp only [go_sem]
    rw [leftOf_neg (by omega)]
  have w2 := r246 x.args (by simp only [Rx.enc_eq, Vals.enc, Mor.enc, Sta.enc, Con.enc, Line.enc, Ans.enc, Prob.enc, Prog.enc, Ses.enc, Equ.enc, Mon.enc, Frm.enc, Mov.enc, Stp.enc, Dfa.enc, IL, I, B, okV, okL, and_true, true_and, List.length_map] at ho; omega) hc (left - ((x.letter).size : Int)) (by omega) (by omega)
  unfold szR at w2
  generalize hn2 : szT (.slc false 3 (x.args.map Rx.enc)) = n2 at w2
  simp only [Rx.enc_eq, Vals.enc, Mor.enc, Sta.enc, Con.enc, Line.enc, Ans.enc, Prob.enc, Prog.enc, Ses.enc, Equ.enc, Mon.enc, Frm.enc, Mov.enc, Stp.enc, Dfa.enc, IL, I, B, szT, szL, List.length_map] at w2 hn2
  simp only [go_sem, w2]
  refine condL_dec (fun c2 => ?_) (fun c2 => ?_)
  · have := leftOf_lt (by omega) c2
    simp only [go_sem]
    rw [leftOf_neg (by omega)]
  obtain ⟨e2, b2⟩ := leftOf_ge c2
  simp only [go_sem, e2]
  rw [leftOf_pos (by omega)]
  refine congrArg some (congrArg (·, []) (congrArg (V.int .i64) ?_))
  omega
  termination_by SizeOf.sizeOf x
  decreasing_by exact Rx.lt _ hz

theorem r184 (x : Mor) (ho : okV x.enc) (left : Int) (h0 : 0 ≤ left) (h1 : left ≤ 1048576) : run EE 184 [x.enc, .int .i64 left] [] = some (.int .i64 (szR x.enc left), []) := by
  have ho' := ho
  simp only [Rx.enc_eq, Vals.enc, Mor.enc, Sta.enc, Con.enc, Line.enc, Ans.enc, Prob.enc, Prog.enc, Ses.enc, Equ.enc, Mon.enc, Frm.enc, Mov.enc, Stp.enc, Dfa.enc, IL, I, B, okV, okL, and_true, true_and, List.length_map] at ho'
  rw [run_eq EE 184 _ _ Tryz.func184 (by decide +kernel) rfl (show 2 ≤ _ by decide)]
  dsimp only [Tryz.f184]
  have e : szR x.enc left = leftOf (szT x.enc) left := rfl
  rw [e]
  simp only [Rx.enc_eq, Vals.enc, Mor.enc, Sta.enc, Con.enc, Line.enc, Ans.enc, Prob.enc, Prog.enc, Ses.enc, Equ.enc, Mon.enc, Frm.enc, Mov.enc, Stp.enc, Dfa.enc, IL, I, B, szT, szL, List.length_map]
  have w1 := wrap_in (n := left - ((x.a).size : Int)) (by omega) (by omega)
  simp only [go_sem, w1]
  refine condL_dec (fun c1 => ?_) (fun c1 => ?_)
  · simp only [go_sem]
    rw [leftOf_neg (by omega)]
  have w2 := wrap_in (n := left - ((x.a).size : Int) - ((x.b).size : Int)) (by omega) (by omega)
  simp only [go_sem, w2]
  refine condL_dec (fun c2 => ?_) (fun c2 => ?_)
  · simp only [go_sem]
    rw [leftOf_neg (by omega)]
  have w3 := wrap_in (n := left - ((x.a).size : Int) - ((x.b).size : Int) - ((x.c).size : Int)) (by omega) (by omega)
  simp only [go_sem, w3]
  refine condL_dec (fun c3 => ?_) (fun c3 => ?_)
  · simp only [go_sem]
    rw [leftOf_neg (by omega)]
  simp only [go_sem]
  rw [leftOf_pos (by omega)]
  refine congrArg some (congrArg (·, []) (congrArg (V.int .i64) ?_))
  omega

theorem r98 (x : Line) (ho : okV x.enc) (left : Int) (h0 : 0 ≤ left) (h1 : left ≤ 1048576) : run EE 98 [x.enc, .int .i64 left] [] = some (.int .i64 (szR x.enc left), []) := by
  have ho' := ho
  simp only [Rx.enc_eq, Vals.enc, Mor.enc, Sta.enc, Con.enc, Line.enc, Ans.enc, Prob.enc, Prog.enc, Ses.enc, Equ.enc, Mon.enc, Frm.enc, Mov.enc, Stp.enc, Dfa.enc, IL, I, B, okV, okL, and_true, true_and, List.length_map] at ho'
  rw [run_eq EE 98 _ _ Tryz.func98 (by decide +kernel) rfl (show 2 ≤ _ by decide)]
  dsimp only [Tryz.f98]
  have e : szR x.enc left = leftOf (szT x.enc) left := rfl
  rw [e]
  simp only [Rx.enc_eq, Vals.enc, Mor.enc, Sta.enc, Con.enc, Line.enc, Ans.enc, Prob.enc, Prog.enc, Ses.enc, Equ.enc, Mon.enc, Frm.enc, Mov.enc, Stp.enc, Dfa.enc, IL, I, B, szT, szL, List.length_map]
  have w1 := wrap_in (n := left - ((x.text).size : Int)) (by omega) (by omega)
  simp only [go_sem, w1]
  refine condL_dec (fun c1 => ?_) (fun c1 => ?_)
  · simp only [go_sem]
    rw [leftOf_neg (by omega)]
  have w2 := r184 x.mor (by simp only [Rx.enc_eq, Vals.enc, Mor.enc, Sta.enc, Con.enc, Line.enc, Ans.enc, Prob.enc, Prog.enc, Ses.enc, Equ.enc, Mon.enc, Frm.enc, Mov.enc, Stp.enc, Dfa.enc, IL, I, B, okV, okL, and_true, true_and, List.length_map] at ho ⊢; simp only [ho, and_self]) (left - ((x.text).size : Int)) (by omega) (by omega)
  unfold szR at w2
  generalize hn2 : szT (x.mor.enc) = n2 at w2
  simp only [Rx.enc_eq, Vals.enc, Mor.enc, Sta.enc, Con.enc, Line.enc, Ans.enc, Prob.enc, Prog.enc, Ses.enc, Equ.enc, Mon.enc, Frm.enc, Mov.enc, Stp.enc, Dfa.enc, IL, I, B, szT, szL, List.length_map] at w2 hn2
  simp only [go_sem, w2]
  refine condL_dec (fun c2 => ?_) (fun c2 => ?_)
  · have := leftOf_lt (by omega) c2
    simp only [go_sem]
    rw [leftOf_neg (by omega)]
  obtain ⟨e2, b2⟩ := leftOf_ge c2
  have w3 := r185 x.regex (by simp only [Rx.enc_eq, Vals.enc, Mor.enc, Sta.enc, Con.enc, Line.enc, Ans.enc, Prob.enc, Prog.enc, Ses.enc, Equ.enc, Mon.enc, Frm.enc, Mov.enc, Stp.enc, Dfa.enc, IL, I, B, okV, okL, and_true, true_and, List.length_map] at ho ⊢; simp only [ho, and_self]) (left - ((x.text).size : Int) - (n2 : Int)) (by omega) (by omega)
  unfold szR at w3
  generalize hn3 : szT (x.regex.enc) = n3 at w3
  simp only [Rx.enc_eq, Vals.enc, Mor.enc, Sta.enc, Con.enc, Line.enc, Ans.enc, Prob.enc, Prog.enc, Ses.enc, Equ.enc, Mon.enc, Frm.enc, Mov.enc, Stp.enc, Dfa.enc, IL, I, B, szT, szL, List.length_map] at w3 hn3
  simp only [go_sem, w3, e2]
  refine condL_dec (fun c3 => ?_) (fun c3 => ?_)
  · have := leftOf_lt (by omega) c3
    simp only [go_sem, e2]
    rw [leftOf_neg (by omega)]
  obtain ⟨e3, b3⟩ := leftOf_ge c3
  simp only [go_sem, e2, e3]
  rw [leftOf_pos (by omega)]
  refine congrArg some (congrArg (·, []) (congrArg (V.int .i64) ?_))
  omega

theorem r38 (l : List Line) (hl : l.length ≤ 9223372036854775807) (hc : ∀ x ∈ l, ∀ left : Int, 0 ≤ left → left ≤ 1048576 → run EE 98 [(Line.enc x), .int .i64 left] [] = some (.int .i64 (szR (Line.enc x) left), [])) (left : Int) (h0 : 0 ≤ left) (h1 : left ≤ 1048576) : run EE 38 [.slc false 8 (l.map Line.enc), .int .i64 left] [] = some (.int .i64 (szR (.slc false 8 (l.map Line.enc)) left), []) := by
  rw [run_eq EE 38 _ _ Tryz.func38 (by decide +kernel) rfl (show 2 ≤ _ by decide)]
  dsimp only [Tryz.f38]
  have w := wrap_in (n := left - (l.length : Int)) (by omega) (by omega)
  simp only [go_sem, w]
  have e : szR (.slc false 8 (l.map Line.enc)) left = leftOf (l.length + szL (l.map Line.enc)) left := by simp only [szR, szT, List.length_map]
  rw [e]
  refine condL_dec (fun c => ?_) (fun c => ?_)
  · simp only [go_sem]
    rw [leftOf_neg (by omega)]
  simp only [go_sem]
  refine (iter_inv (fun x : Nat × Int => x.1 ≤ l.length ∧ 0 ≤ x.2 ∧ x.2 ≤ 1048576) (fun x => { t := upd (upd (upd (e0) 5 (.int .i64 x.1)) 1 (.int .i64 x.2)) 0 (.slc false 8 (l.map Line.enc)), b := n0, o := [], r := #[ResultVar.tmp 4], f := 38, n := 27 }) (fun x => some (.int .i64 (szRL ((l.drop x.1).map Line.enc) x.2), [])) (fun x => l.length - x.1) ?_ (0, left - (l.length : Int)) ⟨Nat.zero_le _, by show 0 ≤ left - (l.length : Int); omega, by show left - (l.length : Int) ≤ 1048576; omega⟩).trans ?_
  · rintro ⟨i, left⟩ ⟨hi, a0, a1⟩ ih
    dsimp only at hi a0 a1 ⊢
    by_cases h : i < l.length
    · have k1 : (i : Int) < l.length := by omega
      have w := wrap_nat (n := i) (by omega)
      have hx := hc l[i] (List.getElem_mem h) left a0 a1
      rw [List.drop_eq_getElem_cons h, List.map_cons, szRL_cons]
      have hle : szR (Line.enc l[i]) left ≤ left ∨ szR (Line.enc l[i]) left = -1 := by unfold szR leftOf; split <;> omega
      generalize szR (Line.enc l[i]) left = r at hx hle ⊢
      simp only [Rx.enc_eq, Vals.enc, Mor.enc, Sta.enc, Con.enc, Line.enc, Ans.enc, Prob.enc, Prog.enc, Ses.enc, Equ.enc, Mon.enc, Frm.enc, Mov.enc, Stp.enc, Dfa.enc, IL, I, B] at hx
      simp only [go_sem, k1, w, getD_map h, hx]
      refine condL_dec (fun c => ?_) (fun c => ?_)
      · simp only [go_sem]
        rw [if_pos c]
      · simp only [go_sem, w]
        rw [if_neg c]
        exact ih (i + 1, r) ⟨by show i + 1 ≤ l.length; omega, by show 0 ≤ r; omega, by show r ≤ 1048576; omega⟩ (by show l.length - (i + 1) < l.length - i; omega)
    · have k1 : ¬ (i : Int) < l.length := by omega
      simp only [go_sem, k1]
      rw [List.drop_eq_nil_of_le (by omega)]
      show _ = some (V.int .i64 (leftOf 0 left), [])
      rw [leftOf_pos (by omega)]
      simp
  · show some (V.int .i64 (leftOf (szL (l.map Line.enc)) (left - (l.length : Int))), []) = _
    by_cases h : (szL (l.map Line.enc) : Int) ≤ left - l.length
    · rw [leftOf_pos h, leftOf_pos (by omega)]
      refine congrArg some (congrArg (·, []) (congrArg (V.int .i64) ?_))
      omega
    · rw [leftOf_neg h, leftOf_neg (by omega)]

theorem r9 (x : Prog) (ho : okV x.enc) (left : Int) (h0 : 0 ≤ left) (h1 : left ≤ 1048576) : run EE 9 [x.enc, .int .i64 left] [] = some (.int .i64 (szR x.enc left), []) := by
  have ho' := ho
  simp only [Rx.enc_eq, Vals.enc, Mor.enc, Sta.enc, Con.enc, Line.enc, Ans.enc, Prob.enc, Prog.enc, Ses.enc, Equ.enc, Mon.enc, Frm.enc, Mov.enc, Stp.enc, Dfa.enc, IL, I, B, okV, okL, and_true, true_and, List.length_map] at ho'
  rw [run_eq EE 9 _ _ Tryz.func9 (by decide +kernel) rfl (show 2 ≤ _ by decide)]
  dsimp only [Tryz.f9]
  have e : szR x.enc left = leftOf (szT x.enc) left := rfl
  rw [e]
  simp only [Rx.enc_eq, Vals.enc, Mor.enc, Sta.enc, Con.enc, Line.enc, Ans.enc, Prob.enc, Prog.enc, Ses.enc, Equ.enc, Mon.enc, Frm.enc, Mov.enc, Stp.enc, Dfa.enc, IL, I, B, szT, szL, List.length_map]
  have w1 := r38 x.lines (by simp only [Rx.enc_eq, Vals.enc, Mor.enc, Sta.enc, Con.enc, Line.enc, Ans.enc, Prob.enc, Prog.enc, Ses.enc, Equ.enc, Mon.enc, Frm.enc, Mov.enc, Stp.enc, Dfa.enc, IL, I, B, okV, okL, and_true, true_and, List.length_map] at ho; omega) (fun z hz left a b => r98 z (okL_map (by simp only [Rx.enc_eq, Vals.enc, Mor.enc, Sta.enc, Con.enc, Line.enc, Ans.enc, Prob.enc, Prog.enc, Ses.enc, Equ.enc, Mon.enc, Frm.enc, Mov.enc, Stp.enc, Dfa.enc, IL, I, B, okV, okL, and_true, true_and, List.length_map] at ho; simp only [ho]) hz) left a b) (left) (by omega) (by omega)
  unfold szR at w1
  generalize hn1 : szT (.slc false 8 (x.lines.map Line.enc)) = n1 at w1
  simp only [Rx.enc_eq, Vals.enc, Mor.enc, Sta.enc, Con.enc, Line.enc, Ans.enc, Prob.enc, Prog.enc, Ses.enc, Equ.enc, Mon.enc, Frm.enc, Mov.enc, Stp.enc, Dfa.enc, IL, I, B, szT, szL, List.length_map] at w1 hn1
  simp only [go_sem, w1]
  refine condL_dec (fun c1 => ?_) (fun c1 => ?_)
  · have := leftOf_lt (by omega) c1
    simp only [go_sem]
    rw [leftOf_neg (by omega)]
  obtain ⟨e1, b1⟩ := leftOf_ge c1
  simp only [go_sem, e1]
  rw [leftOf_pos (by omega)]
  refine congrArg some (congrArg (·, []) (congrArg (V.int .i64) ?_))
  omega
end Go.Ev
namespace Go.Ev
open Go Go.Proofs
set_option maxRecDepth 10000
set_option linter.unusedVariables false
set_option linter.unusedSimpArgs false
theorem r254 (l : List Rx) (hl : l.length ≤ 1048576) (hc : ∀ x ∈ l, run EE 191 [(Rx.enc x)] [] = some ((Rx.enc x), [])) : run EE 254 [.slc false 3 (l.map Rx.enc)] [] = some (.slc false 3 (l.map Rx.enc), []) := by
  rw [run_eq EE 254 _ _ Tryz.func254 (by decide +kernel) rfl (show 1 ≤ _ by decide)]
  dsimp only [Tryz.f254]
  have h8 : (l.length : Int) * 48 ≤ 140737488355328 := by omega
  simp only [go_sem, h8]
  refine iter_inv (fun i : Nat => i ≤ l.length) (fun i => { t := upd (upd (upd (e0) 4 (.int .i64 i)) 3 (.aref 0 7 l.length)) 0 (.slc false 3 (l.map Rx.enc)), b := upd (n0) 7 (some (Ob.arr false 3 (fill Rx.enc l (dflt Tryz.prog 87) i))), o := [], r := #[ResultVar.tmp 2], f := 254, n := 23 }) (fun _ => some (.slc false 3 (l.map Rx.enc), [])) (fun i => l.length - i) ?_ 0 (Nat.zero_le _)
  intro i hi ih
  by_cases h : i < l.length
  · have h1 : (i : Int) < l.length := by omega
    have w := wrap_nat (n := i) (by omega)
    have hx := hc l[i] (List.getElem_mem h)
    simp only [Rx.enc_eq, Vals.enc, Mor.enc, Sta.enc, Con.enc, Line.enc, Ans.enc, Prob.enc, Prog.enc, Ses.enc, Equ.enc, Mon.enc, Frm.enc, Mov.enc, Stp.enc, Dfa.enc, IL, I, B] at hx
    simp only [go_sem, h, h1, w, getD_map h, fill_len Rx.enc l _ hi, hx]
    rw [fill_set Rx.enc l _ h _ (by simp only [Rx.enc_eq, Vals.enc, Mor.enc, Sta.enc, Con.enc, Line.enc, Ans.enc, Prob.enc, Prog.enc, Ses.enc, Equ.enc, Mon.enc, Frm.enc, Mov.enc, Stp.enc, Dfa.enc, IL, I, B])]
    exact ih (i + 1) (by omega) (by omega)
  · have h1 : ¬ (i : Int) < l.length := by omega
    obtain rfl : i = l.length := by omega
    simp only [go_sem, h1, fill_all]

theorem r191 (x : Rx) (hs : szT x.enc ≤ 1048576) : run EE 191 [x.enc] [] = some (x.enc, []) := by
  have hs' := hs
  simp only [Rx.enc_eq, Vals.enc, Mor.enc, Sta.enc, Con.enc, Line.enc, Ans.enc, Prob.enc, Prog.enc, Ses.enc, Equ.enc, Mon.enc, Frm.enc, Mov.enc, Stp.enc, Dfa.enc, IL, I, B, szT, szL, List.length_map] at hs'
  have hc : ∀ z ∈ x.args, run EE 191 [z.enc] [] = some (z.enc, []) := fun z hz => r191 z (Nat.le_trans (szL_mem (f := Rx.enc) hz) (by omega))
  have q0 := r254 x.args (by simp only [Rx.enc_eq, Vals.enc, Mor.enc, Sta.enc, Con.enc, Line.enc, Ans.enc, Prob.enc, Prog.enc, Ses.enc, Equ.enc, Mon.enc, Frm.enc, Mov.enc, Stp.enc, Dfa.enc, IL, I, B, szT, szL, List.length_map] at hs; omega) hc
  try simp only [Rx.enc_eq, Vals.enc, Mor.enc, Sta.enc, Con.enc, Line.enc, Ans.enc, Prob.enc, Prog.enc, Ses.enc, Equ.enc, Mon.enc, Frm.enc, Mov.enc, Stp.enc, Dfa.enc, IL, I, B] at q0
  rw [run_eq EE 191 _ _ Tryz.func191 (by decide +kernel) rfl (show 1 ≤ _ by decide)]
  dsimp only [Tryz.f191]
  simp only [go_sem, q0]
  termination_by SizeOf.sizeOf x
  decreasing_by exact Rx.lt _ hz

theorem r190 (x : Mor) (hs : szT x.enc ≤ 1048576) : run EE 190 [x.enc] [] = some (x.enc, []) := by
  have hs' := hs
  simp only [Rx.enc_eq, Vals.enc, Mor.enc, Sta.enc, Con.enc, Line.enc, Ans.enc, Prob.enc, Prog.enc, Ses.enc, Equ.enc, Mon.enc, Frm.enc, Mov.enc, Stp.enc, Dfa.enc, IL, I, B, szT, szL, List.length_map] at hs'
  rw [run_eq EE 190 _ _ Tryz.func190 (by decide +kernel) rfl (show 1 ≤ _ by decide)]
  dsimp only [Tryz.f190]
  simp only [go_sem]

theorem r102 (x : Line) (hs : szT x.enc ≤ 1048576) : run EE 102 [x.enc] [] = some (x.enc, []) := by
  have hs' := hs
  simp only [Rx.enc_eq, Vals.enc, Mor.enc, Sta.enc, Con.enc, Line.enc, Ans.enc, Prob.enc, Prog.enc, Ses.enc, Equ.enc, Mon.enc, Frm.enc, Mov.enc, Stp.enc, Dfa.enc, IL, I, B, szT, szL, List.length_map] at hs'
  have q0 := r190 x.mor (by simp only [Rx.enc_eq, Vals.enc, Mor.enc, Sta.enc, Con.enc, Line.enc, Ans.enc, Prob.enc, Prog.enc, Ses.enc, Equ.enc, Mon.enc, Frm.enc, Mov.enc, Stp.enc, Dfa.enc, IL, I, B, szT, szL, List.length_map] at hs ⊢; omega)
  try simp only [Rx.enc_eq, Vals.enc, Mor.enc, Sta.enc, Con.enc, Line.enc, Ans.enc, Prob.enc, Prog.enc, Ses.enc, Equ.enc, Mon.enc, Frm.enc, Mov.enc, Stp.enc, Dfa.enc, IL, I, B] at q0
  have q1 := r191 x.regex (by simp only [Rx.enc_eq, Vals.enc, Mor.enc, Sta.enc, Con.enc, Line.enc, Ans.enc, Prob.enc, Prog.enc, Ses.enc, Equ.enc, Mon.enc, Frm.enc, Mov.enc, Stp.enc, Dfa.enc, IL, I, B, szT, szL, List.length_map] at hs ⊢; omega)
  try simp only [Rx.enc_eq, Vals.enc, Mor.enc, Sta.enc, Con.enc, Line.enc, Ans.enc, Prob.enc, Prog.enc, Ses.enc, Equ.enc, Mon.enc, Frm.enc, Mov.enc, Stp.enc, Dfa.enc, IL, I, B] at q1
  rw [run_eq EE 102 _ _ Tryz.func102 (by decide +kernel) rfl (show 1 ≤ _ by decide)]
  dsimp only [Tryz.f102]
  simp only [go_sem, q0, q1]

theorem r43 (l : List Line) (hl : l.length ≤ 1048576) (hc : ∀ x ∈ l, run EE 102 [(Line.enc x)] [] = some ((Line.enc x), [])) : run EE 43 [.slc false 8 (l.map Line.enc)] [] = some (.slc false 8 (l.map Line.enc), []) := by
  rw [run_eq EE 43 _ _ Tryz.func43 (by decide +kernel) rfl (show 1 ≤ _ by decide)]
  dsimp only [Tryz.f43]
  have h8 : (l.length : Int) * 120 ≤ 140737488355328 := by omega
  simp only [go_sem, h8]
  refine iter_inv (fun i : Nat => i ≤ l.length) (fun i => { t := upd (upd (upd (e0) 4 (.int .i64 i)) 3 (.aref 0 7 l.length)) 0 (.slc false 8 (l.map Line.enc)), b := upd (n0) 7 (some (Ob.arr false 8 (fill Line.enc l (dflt Tryz.prog 28) i))), o := [], r := #[ResultVar.tmp 2], f := 43, n := 23 }) (fun _ => some (.slc false 8 (l.map Line.enc), [])) (fun i => l.length - i) ?_ 0 (Nat.zero_le _)
  intro i hi ih
  by_cases h : i < l.length
  · have h1 : (i : Int) < l.length := by omega
    have w := wrap_nat (n := i) (by omega)
    have hx := hc l[i] (List.getElem_mem h)
    simp only [Rx.enc_eq, Vals.enc, Mor.enc, Sta.enc, Con.enc, Line.enc, Ans.enc, Prob.enc, Prog.enc, Ses.enc, Equ.enc, Mon.enc, Frm.enc, Mov.enc, Stp.enc, Dfa.enc, IL, I, B] at hx
    simp only [go_sem, h, h1, w, getD_map h, fill_len Line.enc l _ hi, hx]
    rw [fill_set Line.enc l _ h _ (by simp only [Rx.enc_eq, Vals.enc, Mor.enc, Sta.enc, Con.enc, Line.enc, Ans.enc, Prob.enc, Prog.enc, Ses.enc, Equ.enc, Mon.enc, Frm.enc, Mov.enc, Stp.enc, Dfa.enc, IL, I, B])]
    exact ih (i + 1) (by omega) (by omega)
  · have h1 : ¬ (i : Int) < l.length := by omega
    obtain rfl : i = l.length := by omega
    simp only [go_sem, h1, fill_all]

theorem r11 (x : Prog) (hs : szT x.enc ≤ 1048576) : run EE 11 [x.enc] [] = some (x.enc, []) := by
  have hs' := hs
  simp only [Rx.enc_eq, Vals.enc, Mor.enc, Sta.enc, Con.enc, Line.enc, Ans.enc, Prob.enc, Prog.enc, Ses.enc, Equ.enc, Mon.enc, Frm.enc, Mov.enc, Stp.enc, Dfa.enc, IL, I, B, szT, szL, List.length_map] at hs'
  have q0 := r43 x.lines (by simp only [Rx.enc_eq, Vals.enc, Mor.enc, Sta.enc, Con.enc, Line.enc, Ans.enc, Prob.enc, Prog.enc, Ses.enc, Equ.enc, Mon.enc, Frm.enc, Mov.enc, Stp.enc, Dfa.enc, IL, I, B, szT, szL, List.length_map] at hs; omega) (fun z hz => r102 z (Nat.le_trans (szL_mem (f := Line.enc) hz) (by simp only [Rx.enc_eq, Vals.enc, Mor.enc, Sta.enc, Con.enc, Line.enc, Ans.enc, Prob.enc, Prog.enc, Ses.enc, Equ.enc, Mon.enc, Frm.enc, Mov.enc, Stp.enc, Dfa.enc, IL, I, B, szT, szL, List.length_map] at hs; omega)))
  try simp only [Rx.enc_eq, Vals.enc, Mor.enc, Sta.enc, Con.enc, Line.enc, Ans.enc, Prob.enc, Prog.enc, Ses.enc, Equ.enc, Mon.enc, Frm.enc, Mov.enc, Stp.enc, Dfa.enc, IL, I, B] at q0
  rw [run_eq EE 11 _ _ Tryz.func11 (by decide +kernel) rfl (show 1 ≤ _ by decide)]
  dsimp only [Tryz.f11]
  simp only [go_sem, q0]
end Go.Ev
namespace Go.Ev
open Go Go.Proofs
set_option maxRecDepth 10000
set_option linter.unusedVariables false
set_option linter.unusedSimpArgs false
theorem r264 (l m : List Rx) (hl : l.length ≤ 1048576) (hc : ∀ x ∈ l, ∀ y : Rx, run EE 199 [(Rx.enc x), (Rx.enc y)] [] = some (.bool (veq (Rx.enc x) (Rx.enc y)), [])) : run EE 264 [.slc false 3 (l.map Rx.enc), .slc false 3 (m.map Rx.enc)] [] = some (.bool (veqs (l.map Rx.enc) (m.map Rx.enc)), []) := by
  rw [run_eq EE 264 _ _ Tryz.func264 (by decide +kernel) rfl (show 2 ≤ _ by decide)]
  dsimp only [Tryz.f264]
  by_cases hn : l.length = m.length
  · have hn' : (l.length : Int) = m.length := by omega
    simp only [go_sem, hn', bne_self_eq_false]
    refine iter_inv (fun i : Nat => i ≤ l.length) (fun i => { t := upd (upd (upd (e0) 5 (.int .i64 i)) 1 (.slc false 3 (m.map Rx.enc))) 0 (.slc false 3 (l.map Rx.enc)), b := n0, o := [], r := #[ResultVar.tmp 4], f := 264, n := 27 }) (fun i => some (.bool (veqs ((l.drop i).map Rx.enc) ((m.drop i).map Rx.enc)), [])) (fun i => l.length - i) ?_ 0 (Nat.zero_le _)
    intro i hi ih
    by_cases h : i < l.length
    · have h1 : (i : Int) < l.length := by omega
      have h1' : (i : Int) < m.length := by omega
      have h' : i < m.length := by omega
      have w := wrap_nat (n := i) (by omega)
      have hx := hc l[i] (List.getElem_mem h) m[i]
      rw [List.drop_eq_getElem_cons h, List.drop_eq_getElem_cons h', List.map_cons, List.map_cons, veqs_cons]
      generalize veq (Rx.enc l[i]) (Rx.enc m[i]) = r at hx ⊢
      simp only [Rx.enc_eq, Vals.enc, Mor.enc, Sta.enc, Con.enc, Line.enc, Ans.enc, Prob.enc, Prog.enc, Ses.enc, Equ.enc, Mon.enc, Frm.enc, Mov.enc, Stp.enc, Dfa.enc, IL, I, B] at hx
      simp only [go_sem, h1, h1']
      rw [q_drawn]
      rotate_left
      · kernel_rfl
      simp only [go_sem, h1, h1', w, getD_map h, getD_map h', hx]
      cases r
      · simp only [go_sem, Bool.not_false, Bool.false_and]
      · simp only [go_sem, w, Bool.not_true, Bool.true_and]
        exact ih (i + 1) (by omega) (by omega)
    · have h1 : ¬ (i : Int) < l.length := by omega
      have h1' : ¬ (i : Int) < m.length := by omega
      have e1 : l.drop i = [] := List.drop_eq_nil_of_le (by omega)
      have e2 : m.drop i = [] := List.drop_eq_nil_of_le (by omega)
      simp only [go_sem, h1, h1', e1, e2, List.map_nil, veqs]
  · have hn' : ((l.length : Int) != m.length) = true := by simp; omega
    simp only [go_sem, hn']
    rw [veqs_ne (by simpa using hn)]

theorem r199 (x y : Rx) (hs : szT x.enc ≤ 1048576) : run EE 199 [x.enc, y.enc] [] = some (.bool (veq x.enc y.enc), []) := by
  have hs' := hs
  simp only [Rx.enc_eq, Vals.enc, Mor.enc, Sta.enc, Con.enc, Line.enc, Ans.enc, Prob.enc, Prog.enc, Ses.enc, Equ.enc, Mon.enc, Frm.enc, Mov.enc, Stp.enc, Dfa.enc, IL, I, B, szT, szL, List.length_map] at hs'
  have hc : ∀ z ∈ x.args, ∀ v : Rx, run EE 199 [z.enc, v.enc] [] = some (.bool (veq z.enc v.enc), []) := fun z hz v => r199 z v (Nat.le_trans (szL_mem (f := Rx.enc) hz) (by omega))
  have q0 := r264 x.args y.args (by simp only [Rx.enc_eq, Vals.enc, Mor.enc, Sta.enc, Con.enc, Line.enc, Ans.enc, Prob.enc, Prog.enc, Ses.enc, Equ.enc, Mon.enc, Frm.enc, Mov.enc, Stp.enc, Dfa.enc, IL, I, B, szT, szL, List.length_map] at hs; omega) hc
  try simp only [Rx.enc_eq, Vals.enc, Mor.enc, Sta.enc, Con.enc, Line.enc, Ans.enc, Prob.enc, Prog.enc, Ses.enc, Equ.enc, Mon.enc, Frm.enc, Mov.enc, Stp.enc, Dfa.enc, IL, I, B] at q0
  rw [run_eq EE 199 _ _ Tryz.func199 (by decide +kernel) rfl (show 2 ≤ _ by decide)]
  dsimp only [Tryz.f199]
  simp only [go_sem, condL_b, bne, q0, veq, veqs]
  generalize (x.kind == y.kind) = b0
  generalize (x.letter.toList == y.letter.toList) = b1
  generalize (veqs (x.args.map Rx.enc) (y.args.map Rx.enc)) = b2
  cases b0 <;> cases b1 <;> cases b2 <;> rfl
  termination_by SizeOf.sizeOf x
  decreasing_by exact Rx.lt _ hz

theorem r198 (x y : Mor) (hs : szT x.enc ≤ 1048576) : run EE 198 [x.enc, y.enc] [] = some (.bool (veq x.enc y.enc), []) := by
  have hs' := hs
  simp only [Rx.enc_eq, Vals.enc, Mor.enc, Sta.enc, Con.enc, Line.enc, Ans.enc, Prob.enc, Prog.enc, Ses.enc, Equ.enc, Mon.enc, Frm.enc, Mov.enc, Stp.enc, Dfa.enc, IL, I, B, szT, szL, List.length_map] at hs'
  rw [run_eq EE 198 _ _ Tryz.func198 (by decide +kernel) rfl (show 2 ≤ _ by decide)]
  dsimp only [Tryz.f198]
  simp only [go_sem, condL_b, bne, veq, veqs]
  generalize (x.a.toList == y.a.toList) = b0
  generalize (x.b.toList == y.b.toList) = b1
  generalize (x.c.toList == y.c.toList) = b2
  cases b0 <;> cases b1 <;> cases b2 <;> rfl

theorem r112 (x y : Line) (hs : szT x.enc ≤ 1048576) : run EE 112 [x.enc, y.enc] [] = some (.bool (veq x.enc y.enc), []) := by
  have hs' := hs
  simp only [Rx.enc_eq, Vals.enc, Mor.enc, Sta.enc, Con.enc, Line.enc, Ans.enc, Prob.enc, Prog.enc, Ses.enc, Equ.enc, Mon.enc, Frm.enc, Mov.enc, Stp.enc, Dfa.enc, IL, I, B, szT, szL, List.length_map] at hs'
  have q0 := r198 x.mor y.mor (by simp only [Rx.enc_eq, Vals.enc, Mor.enc, Sta.enc, Con.enc, Line.enc, Ans.enc, Prob.enc, Prog.enc, Ses.enc, Equ.enc, Mon.enc, Frm.enc, Mov.enc, Stp.enc, Dfa.enc, IL, I, B, szT, szL, List.length_map] at hs ⊢; omega)
  try simp only [Rx.enc_eq, Vals.enc, Mor.enc, Sta.enc, Con.enc, Line.enc, Ans.enc, Prob.enc, Prog.enc, Ses.enc, Equ.enc, Mon.enc, Frm.enc, Mov.enc, Stp.enc, Dfa.enc, IL, I, B] at q0
  have q1 := r199 x.regex y.regex (by simp only [Rx.enc_eq, Vals.enc, Mor.enc, Sta.enc, Con.enc, Line.enc, Ans.enc, Prob.enc, Prog.enc, Ses.enc, Equ.enc, Mon.enc, Frm.enc, Mov.enc, Stp.enc, Dfa.enc, IL, I, B, szT, szL, List.length_map] at hs ⊢; omega)
  try simp only [Rx.enc_eq, Vals.enc, Mor.enc, Sta.enc, Con.enc, Line.enc, Ans.enc, Prob.enc, Prog.enc, Ses.enc, Equ.enc, Mon.enc, Frm.enc, Mov.enc, Stp.enc, Dfa.enc, IL, I, B] at q1
  rw [run_eq EE 112 _ _ Tryz.func112 (by decide +kernel) rfl (show 2 ≤ _ by decide)]
  dsimp only [Tryz.f112]
  simp only [go_sem, condL_b, bne, q0, q1, veq, veqs]
  generalize (x.kind == y.kind) = b0
  generalize (x.text.toList == y.text.toList) = b1
  generalize (x.mor.a.toList == y.mor.a.toList) = b2
  generalize (x.mor.b.toList == y.mor.b.toList) = b3
  generalize (x.mor.c.toList == y.mor.c.toList) = b4
  generalize (x.regex.kind == y.regex.kind) = b5
  generalize (x.regex.letter.toList == y.regex.letter.toList) = b6
  generalize (veqs (x.regex.args.map Rx.enc) (y.regex.args.map Rx.enc)) = b7
  cases b0 <;> cases b1 <;> cases b2 <;> cases b3 <;> cases b4 <;> cases b5 <;> cases b6 <;> cases b7 <;> rfl

theorem r49 (l m : List Line) (hl : l.length ≤ 1048576) (hc : ∀ x ∈ l, ∀ y : Line, run EE 112 [(Line.enc x), (Line.enc y)] [] = some (.bool (veq (Line.enc x) (Line.enc y)), [])) : run EE 49 [.slc false 8 (l.map Line.enc), .slc false 8 (m.map Line.enc)] [] = some (.bool (veqs (l.map Line.enc) (m.map Line.enc)), []) := by
  rw [run_eq EE 49 _ _ Tryz.func49 (by decide +kernel) rfl (show 2 ≤ _ by decide)]
  dsimp only [Tryz.f49]
  by_cases hn : l.length = m.length
  · have hn' : (l.length : Int) = m.length := by omega
    simp only [go_sem, hn', bne_self_eq_false]
    refine iter_inv (fun i : Nat => i ≤ l.length) (fun i => { t := upd (upd (upd (e0) 5 (.int .i64 i)) 1 (.slc false 8 (m.map Line.enc))) 0 (.slc false 8 (l.map Line.enc)), b := n0, o := [], r := #[ResultVar.tmp 4], f := 49, n := 27 }) (fun i => some (.bool (veqs ((l.drop i).map Line.enc) ((m.drop i).map Line.enc)), [])) (fun i => l.length - i) ?_ 0 (Nat.zero_le _)
    intro i hi ih
    by_cases h : i < l.length
    · have h1 : (i : Int) < l.length := by omega
      have h1' : (i : Int) < m.length := by omega
      have h' : i < m.length := by omega
      have w := wrap_nat (n := i) (by omega)
      have hx := hc l[i] (List.getElem_mem h) m[i]
      rw [List.drop_eq_getElem_cons h, List.drop_eq_getElem_cons h', List.map_cons, List.map_cons, veqs_cons]
      generalize veq (Line.enc l[i]) (Line.enc m[i]) = r at hx ⊢
      simp only [Rx.enc_eq, Vals.enc, Mor.enc, Sta.enc, Con.enc, Line.enc, Ans.enc, Prob.enc, Prog.enc, Ses.enc, Equ.enc, Mon.enc, Frm.enc, Mov.enc, Stp.enc, Dfa.enc, IL, I, B] at hx
      simp only [go_sem, h1, h1']
      rw [q_drawn]
      rotate_left
      · kernel_rfl
      simp only [go_sem, h1, h1', w, getD_map h, getD_map h', hx]
      cases r
      · simp only [go_sem, Bool.not_false, Bool.false_and]
      · simp only [go_sem, w, Bool.not_true, Bool.true_and]
        exact ih (i + 1) (by omega) (by omega)
    · have h1 : ¬ (i : Int) < l.length := by omega
      have h1' : ¬ (i : Int) < m.length := by omega
      have e1 : l.drop i = [] := List.drop_eq_nil_of_le (by omega)
      have e2 : m.drop i = [] := List.drop_eq_nil_of_le (by omega)
      simp only [go_sem, h1, h1', e1, e2, List.map_nil, veqs]
  · have hn' : ((l.length : Int) != m.length) = true := by simp; omega
    simp only [go_sem, hn']
    rw [veqs_ne (by simpa using hn)]

theorem r13 (x y : Prog) (hs : szT x.enc ≤ 1048576) : run EE 13 [x.enc, y.enc] [] = some (.bool (veq x.enc y.enc), []) := by
  have hs' := hs
  simp only [Rx.enc_eq, Vals.enc, Mor.enc, Sta.enc, Con.enc, Line.enc, Ans.enc, Prob.enc, Prog.enc, Ses.enc, Equ.enc, Mon.enc, Frm.enc, Mov.enc, Stp.enc, Dfa.enc, IL, I, B, szT, szL, List.length_map] at hs'
  have q0 := r49 x.lines y.lines (by simp only [Rx.enc_eq, Vals.enc, Mor.enc, Sta.enc, Con.enc, Line.enc, Ans.enc, Prob.enc, Prog.enc, Ses.enc, Equ.enc, Mon.enc, Frm.enc, Mov.enc, Stp.enc, Dfa.enc, IL, I, B, szT, szL, List.length_map] at hs; omega) (fun z hz v => r112 z v (Nat.le_trans (szL_mem (f := Line.enc) hz) (by simp only [Rx.enc_eq, Vals.enc, Mor.enc, Sta.enc, Con.enc, Line.enc, Ans.enc, Prob.enc, Prog.enc, Ses.enc, Equ.enc, Mon.enc, Frm.enc, Mov.enc, Stp.enc, Dfa.enc, IL, I, B, szT, szL, List.length_map] at hs; omega)))
  try simp only [Rx.enc_eq, Vals.enc, Mor.enc, Sta.enc, Con.enc, Line.enc, Ans.enc, Prob.enc, Prog.enc, Ses.enc, Equ.enc, Mon.enc, Frm.enc, Mov.enc, Stp.enc, Dfa.enc, IL, I, B] at q0
  rw [run_eq EE 13 _ _ Tryz.func13 (by decide +kernel) rfl (show 2 ≤ _ by decide)]
  dsimp only [Tryz.f13]
  simp only [go_sem, condL_b, bne, q0, veq, veqs]
  generalize (veqs (x.lines.map Line.enc) (y.lines.map Line.enc)) = b0
  cases b0 <;> rfl
end Go.Ev
namespace Go.Ev
open Go Go.Proofs
set_option maxRecDepth 10000
set_option linter.unusedVariables false
set_option linter.unusedSimpArgs false

theorem line_sz (l : Line) (h : szT l.enc ≤ 1048576) : lineSz l := by
  unfold lineSz
  simp only [Line.enc, Rx.enc_eq, szT, szL] at h ⊢
  omega
theorem law3 (x : Prog) (s : ByteArray) (ox : okV x.enc) (os : okV (.str s)) : run EE 3 [x.enc, .str s] [] = some (.bool true, []) := by
  have z1 := r9 x ox 1048576 (by omega) (by omega)
  unfold szR at z1
  generalize hn1 : szT x.enc = n1 at z1
  simp only [Prog.enc] at z1
  rw [run_eq EE 3 _ _ Tryz.func3 (by decide +kernel) rfl (show 2 ≤ _ by decide)]
  dsimp only [Tryz.f3]
  by_cases hs : (s.size : Int) > 1048576
  · simp only [go_sem, hs]
  simp only [go_sem, hs, z1]
  refine condL_dec (fun c1 => ?_) (fun c1 => ?_)
  · simp only [go_sem]
  obtain ⟨e1, b1⟩ := leftOf_ge c1
  have hn1' := hn1
  simp only [Prog.enc, szT, szL, List.length_map] at hn1'
  have hS : ∀ z ∈ x.lines, szT z.enc ≤ 1048576 := fun z hz => by have := szL_mem (f := Line.enc) hz; omega
  have tx := r11 x (by omega)
  have sp := r10 x.lines (by omega) (fun z hz => line_sz z (hS z hz)) s (by omega)
  have im := r12 x.lines (by omega) (fun z hz => line_sz z (hS z hz)) s (by omega)
  have ex := r13 x x (by omega)
  rw [veq_refl] at ex
  simp only [Prog.enc] at tx ex
  have hP : ∃ t k b, runP x.lines s = .tup [.str t, .int .i64 k, .bool b] := by
    unfold runP
    split
    · exact ⟨_, _, _, rfl⟩
    · exact ⟨_, _, _, rfl⟩
  obtain ⟨t, k, b, hP⟩ := hP
  rw [hP] at sp im
  have eb : (b != b) = false := by cases b <;> rfl
  have ek : (k != k) = false := by simp
  have et : (t.toList == t.toList) = true := by simp
  simp only [go_sem, e1, tx, sp, im, eb, ek, et, bne, beq_self_eq_true, Bool.not_true]
  rw [q_drawn]
  rotate_left
  · kernel_rfl
  simp only [go_sem, tx, ex, Bool.not_true]
end Go.Ev
namespace Go.Ev.Op
open Go Go.Proofs Go.RowKit Go.Ev
set_option maxRecDepth 10000
set_option linter.unusedVariables false
set_option linter.unusedSimpArgs false
theorem un3 : Tryz.prog.underlying 3 = some (.int .i64) := by kernel_rfl
theorem ce3 : Tryz.prog.cellsOf 3 = 1 := by kernel_rfl
theorem un9 : Tryz.prog.underlying 9 = some .string := by kernel_rfl
theorem ce9 : Tryz.prog.cellsOf 9 = 1 := by kernel_rfl
theorem fo156 : fieldsOf Tryz.prog 156 = some [(9, 0), (9, 1), (9, 2)] := by kernel_rfl
theorem ce156 : Tryz.prog.cellsOf 156 = 3 := by kernel_rfl
theorem ty156 : ∀ (n : Nat) (vs : List V), TyOk Tryz.prog n 156 vs → ∃ x : Mor, V.agg vs = x.enc ∧ okV x.enc := by
  intro n
  induction n using Nat.strongRecOn with
  | _ n ih =>
  cases n with
  | zero => intro vs h; cases h
  | succ n =>
    intro vs h
    obtain ⟨hl, hf⟩ := tyOk_struct fo156 h
    rw [ce156] at hl
    match vs, hl with
    | [a0, a1, a2], _ =>
      have h0 := hf (9, 0) (by simp)
      dsimp only at h0
      rw [ce9] at h0
      simp only [List.drop_succ_cons, List.drop_zero, List.take_succ_cons, List.take_zero] at h0
      obtain ⟨m0, e0, o0⟩ := tyOk_str un9 h0
      obtain rfl : a0 = _ := (List.cons.inj e0).1
      have h1 := hf (9, 1) (by simp)
      dsimp only at h1
      rw [ce9] at h1
      simp only [List.drop_succ_cons, List.drop_zero, List.take_succ_cons, List.take_zero] at h1
      obtain ⟨m1, e1, o1⟩ := tyOk_str un9 h1
      obtain rfl : a1 = _ := (List.cons.inj e1).1
      have h2 := hf (9, 2) (by simp)
      dsimp only at h2
      rw [ce9] at h2
      simp only [List.drop_succ_cons, List.drop_zero, List.take_succ_cons, List.take_zero] at h2
      obtain ⟨m2, e2, o2⟩ := tyOk_str un9 h2
      obtain rfl : a2 = _ := (List.cons.inj e2).1
      refine ⟨⟨m0, m1, m2⟩, ?_, ?_⟩
      · simp only [Rx.enc_eq, Vals.enc, Mor.enc, Sta.enc, Con.enc, Line.enc, Ans.enc, Prob.enc, Prog.enc, Ses.enc, Equ.enc, Mon.enc, Frm.enc, Mov.enc, Stp.enc, Dfa.enc, IL, I, B, V.agg.injEq, List.cons.injEq, and_true, true_and]
      · simp only [Rx.enc_eq, Vals.enc, Mor.enc, Sta.enc, Con.enc, Line.enc, Ans.enc, Prob.enc, Prog.enc, Ses.enc, Equ.enc, Mon.enc, Frm.enc, Mov.enc, Stp.enc, Dfa.enc, IL, I, B, okV, okL, List.length_map, and_true, true_and]
        simp only [o0, o1, o2, and_self]
theorem un157 : Tryz.prog.underlying 157 = some (.slice 159) := by kernel_rfl
theorem ce157 : Tryz.prog.cellsOf 157 = 1 := by kernel_rfl
theorem ag159 : isAgg Tryz.prog 159 = true := by kernel_rfl
theorem fo159 : fieldsOf Tryz.prog 159 = some [(3, 0), (9, 1), (157, 2)] := by kernel_rfl
theorem ce159 : Tryz.prog.cellsOf 159 = 3 := by kernel_rfl
theorem ty159 : ∀ (n : Nat) (vs : List V), TyOk Tryz.prog n 159 vs → ∃ x : Rx, V.agg vs = x.enc ∧ okV x.enc := by
  intro n
  induction n using Nat.strongRecOn with
  | _ n ih =>
  cases n with
  | zero => intro vs h; cases h
  | succ n =>
    intro vs h
    obtain ⟨hl, hf⟩ := tyOk_struct fo159 h
    rw [ce159] at hl
    match vs, hl with
    | [a0, a1, a2], _ =>
      have h0 := hf (3, 0) (by simp)
      dsimp only at h0
      rw [ce3] at h0
      simp only [List.drop_succ_cons, List.drop_zero, List.take_succ_cons, List.take_zero] at h0
      obtain ⟨m0, e0, o0⟩ := tyOk_int un3 h0
      obtain rfl : a0 = _ := (List.cons.inj e0).1
      have h1 := hf (9, 1) (by simp)
      dsimp only at h1
      rw [ce9] at h1
      simp only [List.drop_succ_cons, List.drop_zero, List.take_succ_cons, List.take_zero] at h1
      obtain ⟨m1, e1, o1⟩ := tyOk_str un9 h1
      obtain rfl : a1 = _ := (List.cons.inj e1).1
      have h2 := hf (157, 2) (by simp)
      dsimp only at h2
      rw [ce157] at h2
      simp only [List.drop_succ_cons, List.drop_zero, List.take_succ_cons, List.take_zero] at h2
      obtain ⟨m2, e2, l2, o2⟩ := tyOk_slcR un157 (fun m hm us hu => ty_agg ag159 (ih m (by omega) us hu)) h2
      obtain rfl : a2 = _ := (List.cons.inj e2).1
      rw [ce159]
      refine ⟨⟨m0, m1, m2⟩, ?_, ?_⟩
      · simp only [Rx.enc_eq, Vals.enc, Mor.enc, Sta.enc, Con.enc, Line.enc, Ans.enc, Prob.enc, Prog.enc, Ses.enc, Equ.enc, Mon.enc, Frm.enc, Mov.enc, Stp.enc, Dfa.enc, IL, I, B, V.agg.injEq, List.cons.injEq, and_true, true_and]
      · simp only [Rx.enc_eq, Vals.enc, Mor.enc, Sta.enc, Con.enc, Line.enc, Ans.enc, Prob.enc, Prog.enc, Ses.enc, Equ.enc, Mon.enc, Frm.enc, Mov.enc, Stp.enc, Dfa.enc, IL, I, B, okV, okL, List.length_map, and_true, true_and]
        simp only [o0, o1, l2, o2, and_self]
theorem fo161 : fieldsOf Tryz.prog 161 = some [(3, 0), (9, 1), (156, 2), (159, 5)] := by kernel_rfl
theorem ce161 : Tryz.prog.cellsOf 161 = 8 := by kernel_rfl
theorem ty161 : ∀ (n : Nat) (vs : List V), TyOk Tryz.prog n 161 vs → ∃ x : Line, V.agg vs = x.enc ∧ okV x.enc := by
  intro n
  induction n using Nat.strongRecOn with
  | _ n ih =>
  cases n with
  | zero => intro vs h; cases h
  | succ n =>
    intro vs h
    obtain ⟨hl, hf⟩ := tyOk_struct fo161 h
    rw [ce161] at hl
    match vs, hl with
    | [a0, a1, a2, a3, a4, a5, a6, a7], _ =>
      have h0 := hf (3, 0) (by simp)
      dsimp only at h0
      rw [ce3] at h0
      simp only [List.drop_succ_cons, List.drop_zero, List.take_succ_cons, List.take_zero] at h0
      obtain ⟨m0, e0, o0⟩ := tyOk_int un3 h0
      obtain rfl : a0 = _ := (List.cons.inj e0).1
      have h1 := hf (9, 1) (by simp)
      dsimp only at h1
      rw [ce9] at h1
      simp only [List.drop_succ_cons, List.drop_zero, List.take_succ_cons, List.take_zero] at h1
      obtain ⟨m1, e1, o1⟩ := tyOk_str un9 h1
      obtain rfl : a1 = _ := (List.cons.inj e1).1
      have h2 := hf (156, 2) (by simp)
      dsimp only at h2
      rw [ce156] at h2
      simp only [List.drop_succ_cons, List.drop_zero, List.take_succ_cons, List.take_zero] at h2
      obtain ⟨m2, e2, o2⟩ := ty156 _ _ h2
      have h3 := hf (159, 5) (by simp)
      dsimp only at h3
      rw [ce159] at h3
      simp only [List.drop_succ_cons, List.drop_zero, List.take_succ_cons, List.take_zero] at h3
      obtain ⟨m3, e3, o3⟩ := ty159 _ _ h3
      refine ⟨⟨m0, m1, m2, m3⟩, ?_, ?_⟩
      · simp only [Rx.enc_eq, Vals.enc, Mor.enc, Sta.enc, Con.enc, Line.enc, Ans.enc, Prob.enc, Prog.enc, Ses.enc, Equ.enc, Mon.enc, Frm.enc, Mov.enc, Stp.enc, Dfa.enc, IL, I, B, V.agg.injEq, List.cons.injEq, and_true] at e2; simp only [Rx.enc_eq, Vals.enc, Mor.enc, Sta.enc, Con.enc, Line.enc, Ans.enc, Prob.enc, Prog.enc, Ses.enc, Equ.enc, Mon.enc, Frm.enc, Mov.enc, Stp.enc, Dfa.enc, IL, I, B, V.agg.injEq, List.cons.injEq, and_true] at e3; simp only [Rx.enc_eq, Vals.enc, Mor.enc, Sta.enc, Con.enc, Line.enc, Ans.enc, Prob.enc, Prog.enc, Ses.enc, Equ.enc, Mon.enc, Frm.enc, Mov.enc, Stp.enc, Dfa.enc, IL, I, B, V.agg.injEq, List.cons.injEq, and_true, true_and, e2, e3]
      · simp only [Rx.enc_eq, Vals.enc, Mor.enc, Sta.enc, Con.enc, Line.enc, Ans.enc, Prob.enc, Prog.enc, Ses.enc, Equ.enc, Mon.enc, Frm.enc, Mov.enc, Stp.enc, Dfa.enc, IL, I, B, okV, okL, List.length_map, and_true, true_and]
        simp only [Rx.enc_eq, Vals.enc, Mor.enc, Sta.enc, Con.enc, Line.enc, Ans.enc, Prob.enc, Prog.enc, Ses.enc, Equ.enc, Mon.enc, Frm.enc, Mov.enc, Stp.enc, Dfa.enc, IL, I, B, okV, okL, List.length_map, and_true, true_and] at o2
        simp only [Rx.enc_eq, Vals.enc, Mor.enc, Sta.enc, Con.enc, Line.enc, Ans.enc, Prob.enc, Prog.enc, Ses.enc, Equ.enc, Mon.enc, Frm.enc, Mov.enc, Stp.enc, Dfa.enc, IL, I, B, okV, okL, List.length_map, and_true, true_and] at o3
        simp only [o0, o1, o2, o3, and_self]
theorem un22 : Tryz.prog.underlying 22 = some (.slice 161) := by kernel_rfl
theorem ce22 : Tryz.prog.cellsOf 22 = 1 := by kernel_rfl
theorem ag161 : isAgg Tryz.prog 161 = true := by kernel_rfl
theorem ty22 : ∀ (n : Nat) (vs : List V), TyOk Tryz.prog n 22 vs → ∃ l : List Line, vs = [.slc false 8 (l.map Line.enc)] ∧ l.length ≤ 9223372036854775807 ∧ okL (l.map Line.enc) := by
  intro n vs h
  cases n with
  | zero => cases h
  | succ n =>
    obtain ⟨l, h1, h2, h3⟩ := tyOk_slc un22 (f := Line.enc) (fun us hu => ty_agg ag161 (ty161 _ _ hu)) h
    rw [ce161] at h1
    exact ⟨l, h1, h2, h3⟩
theorem fo24 : fieldsOf Tryz.prog 24 = some [(22, 0)] := by kernel_rfl
theorem ce24 : Tryz.prog.cellsOf 24 = 1 := by kernel_rfl
theorem ty24 : ∀ (n : Nat) (vs : List V), TyOk Tryz.prog n 24 vs → ∃ x : Prog, V.agg vs = x.enc ∧ okV x.enc := by
  intro n
  induction n using Nat.strongRecOn with
  | _ n ih =>
  cases n with
  | zero => intro vs h; cases h
  | succ n =>
    intro vs h
    obtain ⟨hl, hf⟩ := tyOk_struct fo24 h
    rw [ce24] at hl
    match vs, hl with
    | [a0], _ =>
      have h0 := hf (22, 0) (by simp)
      dsimp only at h0
      rw [ce22] at h0
      simp only [List.drop_succ_cons, List.drop_zero, List.take_succ_cons, List.take_zero] at h0
      obtain ⟨m0, e0, l0, o0⟩ := ty22 _ _ h0
      obtain rfl : a0 = _ := (List.cons.inj e0).1
      refine ⟨⟨m0⟩, ?_, ?_⟩
      · simp only [Rx.enc_eq, Vals.enc, Mor.enc, Sta.enc, Con.enc, Line.enc, Ans.enc, Prob.enc, Prog.enc, Ses.enc, Equ.enc, Mon.enc, Frm.enc, Mov.enc, Stp.enc, Dfa.enc, IL, I, B, V.agg.injEq, List.cons.injEq, and_true, true_and]
      · simp only [Rx.enc_eq, Vals.enc, Mor.enc, Sta.enc, Con.enc, Line.enc, Ans.enc, Prob.enc, Prog.enc, Ses.enc, Equ.enc, Mon.enc, Frm.enc, Mov.enc, Stp.enc, Dfa.enc, IL, I, B, okV, okL, List.length_map, and_true, true_and]
        simp only [l0, o0, and_self]
theorem closed : closedT Tryz.prog [3, 9, 156, 157, 159, 161, 22, 24] = true := by kernel_rfl
end Go.Ev.Op
