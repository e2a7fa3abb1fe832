/- Values of variables: read, put, and what a string says of them. What a move has undone, and a step told back. An equation as a problem: is it valid, and its variables. The words of a length, and up to one. The models of an equation: all of them are solutions. The law: every solution of an equation that is not solved passes through one of its moves. Typed cells as the laws' data. -/
import Derived.Test.YtkffkacjmhmegaaProg
import Derived.Test.YtkffkacjmhmegaaEvQ
import Derived.Test.YtkffkacjmhmegaaEvO
import Derived.Test.YtkffkacjmhmegaaEvN
set_option linter.unusedVariables false
set_option linter.unusedSimpArgs false
namespace Go.Ev
open Go Go.Proofs
set_option maxRecDepth 10000
set_option maxHeartbeats 4000000

theorem r26 (v : Vals) (c : Int) : run EE 26 [v.enc, .int .u8 c] [] = some (.str (v.of c), []) := by
 unfold Vals.of
 rw [run_eq EE 26 _ _ Try.func26 (by decide +kernel) rfl (show 2 ≤ _ by decide)]
 dsimp only [Try.f26]
 by_cases h1 : c = 88
 · subst h1
   simp only [go_sem, Vals.enc]
   all_goals rfl
 by_cases h2 : c = 89
 · subst h2
   simp only [go_sem, Vals.enc]
   all_goals rfl
 by_cases h3 : c = 90
 · subst h3
   simp only [go_sem, Vals.enc]
   all_goals rfl
 have b1 : (c == 88) = false := by simpa using h1
 have b2 : (c == 89) = false := by simpa using h2
 have b3 : (c == 90) = false := by simpa using h3
 rw [if_neg h1, if_neg h2, if_neg h3]
 simp only [go_sem, Vals.enc, b1, b2, b3]
theorem r32 (v : Vals) (c : Int) : run EE 32 [v.enc, .int .u8 c] [] = some (.str (v.of c), []) := by
 unfold Vals.of
 rw [run_eq EE 32 _ _ Try.func32 (by decide +kernel) rfl (show 2 ≤ _ by decide)]
 dsimp only [Try.f32]
 by_cases h1 : c = 88
 · subst h1
   simp only [go_sem, Vals.enc]
   all_goals rfl
 by_cases h2 : c = 89
 · subst h2
   simp only [go_sem, Vals.enc]
   all_goals rfl
 by_cases h3 : c = 90
 · subst h3
   simp only [go_sem, Vals.enc]
   all_goals rfl
 have b1 : (c == 88) = false := by simpa using h1
 have b2 : (c == 89) = false := by simpa using h2
 have b3 : (c == 90) = false := by simpa using h3
 rw [if_neg h1, if_neg h2, if_neg h3]
 simp only [go_sem, Vals.enc, b1, b2, b3]
theorem r28 (v : Vals) (c : Int) (s : ByteArray) : run EE 28 [v.enc, .int .u8 c, .str s] [] = some ((v.wit c s).enc, []) := by
 unfold Vals.wit
 rw [run_eq EE 28 _ _ Try.func28 (by decide +kernel) rfl (show 3 ≤ _ by decide)]
 dsimp only [Try.f28]
 by_cases h1 : c = 88
 · subst h1
   simp only [go_sem, Vals.enc]
   all_goals rfl
 by_cases h2 : c = 89
 · subst h2
   simp only [go_sem, Vals.enc]
   all_goals rfl
 by_cases h3 : c = 90
 · subst h3
   simp only [go_sem, Vals.enc]
   all_goals rfl
 have b1 : (c == 88) = false := by simpa using h1
 have b2 : (c == 89) = false := by simpa using h2
 have b3 : (c == 90) = false := by simpa using h3
 rw [if_neg h1, if_neg h2, if_neg h3]
 simp only [go_sem, Vals.enc, b1, b2, b3]
theorem r31 (v : Vals) (c : Int) (s : ByteArray) : run EE 31 [v.enc, .int .u8 c, .str s] [] = some ((v.wit c s).enc, []) := by
 unfold Vals.wit
 rw [run_eq EE 31 _ _ Try.func31 (by decide +kernel) rfl (show 3 ≤ _ by decide)]
 dsimp only [Try.f31]
 by_cases h1 : c = 88
 · subst h1
   simp only [go_sem, Vals.enc]
   all_goals rfl
 by_cases h2 : c = 89
 · subst h2
   simp only [go_sem, Vals.enc]
   all_goals rfl
 by_cases h3 : c = 90
 · subst h3
   simp only [go_sem, Vals.enc]
   all_goals rfl
 have b1 : (c == 88) = false := by simpa using h1
 have b2 : (c == 89) = false := by simpa using h2
 have b3 : (c == 90) = false := by simpa using h3
 rw [if_neg h1, if_neg h2, if_neg h3]
 simp only [go_sem, Vals.enc, b1, b2, b3]
theorem r13 (s : ByteArray) (v : Vals) (hs : s.size ≤ 9223372036854775806) (hv : v.le 1048576) : run EE 13 [.str s, v.enc] [] = some (.str (appB s v), []) := by
 rw [run_eq EE 13 _ _ Try.func13 (by decide +kernel) rfl (show 2 ≤ _ by decide)]
 dsimp only [Try.f13]
 simp only [go_sem, Vals.enc]
 refine iter_inv (fun x : Nat × ByteArray => x.2.size ≤ 1048576 ∧ x.1 ≤ s.size) (fun x => { t := upd (upd (upd (upd e0 6 (.int .i64 (x.1 : Int))) 5 (.str x.2)) 3 (.ptr 0 3 0)) 0 (.str s), b := upd n0 3 (some (Ob.box [.str v.x, .str v.y, .str v.z])), o := [], r := #[ResultVar.tmp 4], f := 13, n := 35 }) (fun x => some (.str (repl (appF s v) s x.1 x.2), [])) (fun x => s.size - x.1) ?_ (0, ⟨#[]⟩) ⟨by decide, Nat.zero_le _⟩
 rintro ⟨i, out⟩ ⟨ho, hi⟩ ih
 dsimp only at ho hi ⊢
 by_cases h : i < s.size
 rotate_left
 · have k1 : ¬ (i : Int) < s.size := by omega
   rw [repl_end h]
   simp only [go_sem, k1]
 have k1 : (i : Int) < s.size := by omega
 have k0 : (0 : Int) ≤ i := by omega
 have wi := wrap_nat (n := i) (by omega)
 have q1 := r30 (bt s i)
 have q2 := r26 v (bt s i)
 simp only [Vals.enc] at q2
 rw [repl_next h]
 have hf : (appF s v i).size ≤ 1048576 := by
   unfold appF
   split
   · exact Vals.of_le hv _
   · have := one_size s i h; omega
 have z1 : (out ++ appF s v i).size = out.size + (appF s v i).size := ByteArray.size_append
 have ihn := fun hz => ih (i + 1, out ++ appF s v i) ⟨hz, h⟩ (by show s.size - (i + 1) < s.size - i; omega)
 dsimp only at ihn
 by_cases g : isVar (bt s i) = true
 · have e1 : appF s v i = v.of (bt s i) := by unfold appF; rw [if_pos g]
   rw [e1] at hf z1 ihn ⊢
   have z2 : ¬ ((out.size + (v.of (bt s i)).size : Nat) : Int) > 9223372036854775807 := by omega
   simp only [go_sem, k0, k1, q1, g, Vals.enc]
   rw [q_drs]
   rotate_left
   · kernel_rfl
   simp only [go_sem, k0, k1, q2, z2, Vals.enc]
   refine condL_dec (fun z => ?_) (fun z => ?_)
   · rw [if_pos (by omega)]
     simp only [go_sem]
   · rw [if_neg (by omega)]
     simp only [go_sem, wi]
     exact ihn (by omega)
 · have e1 : appF s v i = one s i := by unfold appF; rw [if_neg g]
   have g' : isVar (bt s i) = false := by simpa using g
   have h1 := one_size s i h
   rw [e1] at hf z1 ihn ⊢
   have z2 : ¬ ((out.size + (one s i).size : Nat) : Int) > 9223372036854775807 := by omega
   have z3 : (i : Int) ≤ ((i + 1 : Nat) : Int) := by omega
   have z4 : ((i + 1 : Nat) : Int) ≤ s.size := by omega
   have e2 : s.extract i (i + 1) = one s i := rfl
   simp only [go_sem, k0, k1, q1, g', wi, z3, z4, e2, z2, Vals.enc]
   refine condL_dec (fun z => ?_) (fun z => ?_)
   · rw [if_pos (by omega)]
     simp only [go_sem]
   · rw [if_neg (by omega)]
     simp only [go_sem, wi]
     exact ihn (by omega)
end Go.Ev
namespace Go.Ev
open Go Go.Proofs
set_option maxRecDepth 10000
set_option maxHeartbeats 4000000

theorem r27 (s t : ByteArray) : run EE 27 [.str s, .str t] [] = some (.bool (begB s t), []) := by
 rw [run_eq EE 27 _ _ Try.func27 (by decide +kernel) rfl (show 2 ≤ _ by decide)]
 dsimp only [Try.f27]
 unfold begB
 by_cases h : t.size ≤ s.size
 · have k1 : (s.size : Int) ≥ t.size := by omega
   have k2 : (t.size : Int) ≤ s.size := by omega
   have k0 : (0 : Int) ≤ t.size := by omega
   simp only [go_sem, k1, k2, k0, h, toList_beq]
 · have k1 : ¬ (s.size : Int) ≥ t.size := by omega
   simp only [go_sem, k1, h]
   rfl
theorem r11 (v : Vals) (m : Mov) (hv : v.le 1048576) : run EE 11 [v.enc, m.enc] [] = some (.tup [(undo v m).1.enc, .bool (undo v m).2], []) := by
 rw [run_eq EE 11 _ _ Try.func11 (by decide +kernel) rfl (show 2 ≤ _ by decide)]
 dsimp only [Try.f11]
 have q1 := r26 v m.name
 simp only [Vals.enc] at q1
 have z1 := toList_nil m.by_
 have z2 := toList_nil (v.of m.name)
 unfold undo
 by_cases h : m.by_.size = 0
 · rw [if_pos h]
   simp only [go_sem, Vals.enc, q1, z1, z2, h]
 rw [if_neg h]
 have k1 : (1 : Int) ≤ m.by_.size := by omega
 have q2 := r13 (m.by_.extract 0 1) v (by rw [ByteArray.size_extract]; omega) hv
 have q3 := r27 (v.of m.name) (appB (m.by_.extract 0 1) v)
 simp only [Vals.enc] at q2
 by_cases hb : begB (v.of m.name) (appB (m.by_.extract 0 1) v) = true
 · rw [if_pos hb]
   have hb2 : ((appB (m.by_.extract 0 1) v).size : Int) ≤ (v.of m.name).size := by
     unfold begB at hb
     rw [Bool.and_eq_true, decide_eq_true_eq] at hb
     omega
   have k2 : (0 : Int) ≤ (appB (m.by_.extract 0 1) v).size := by omega
   have q4 := r28 v m.name ((v.of m.name).extract (appB (m.by_.extract 0 1) v).size (v.of m.name).size)
   simp only [Vals.enc] at q4
   generalize hRES : some (V.tup [(v.wit m.name ((v.of m.name).extract (appB (m.by_.extract 0 1) v).size (v.of m.name).size), true).1.enc, V.bool (v.wit m.name ((v.of m.name).extract (appB (m.by_.extract 0 1) v).size (v.of m.name).size), true).2], ([] : List (Nat → Option Ob))) = RES
   simp only [go_sem, Vals.enc, q1, z1, z2, h]
   rw [q_drs]
   rotate_left
   · kernel_rfl
   simp only [go_sem, q1, q2, q3, hb, k1]
   rw [q_drs]
   rotate_left
   · kernel_rfl
   simp only [go_sem, q1, q2, q3, q4, hb, k1, k2, hb2]
   exact hRES
 · have hb' : begB (v.of m.name) (appB (m.by_.extract 0 1) v) = false := by simpa using hb
   rw [if_neg hb]
   generalize hRES : some (V.tup [(v, false).1.enc, V.bool (v, false).2], ([] : List (Nat → Option Ob))) = RES
   simp only [go_sem, Vals.enc, q1, z1, z2, h]
   rw [q_drs]
   rotate_left
   · kernel_rfl
   simp only [go_sem, q1, q2, q3, hb', k1]
   exact hRES
theorem r14 (v : Vals) (m : Mov) (hv : v.le 1048576) : run EE 14 [v.enc, m.enc] [] = some ((rev v m).enc, []) := by
 rw [run_eq EE 14 _ _ Try.func14 (by decide +kernel) rfl (show 2 ≤ _ by decide)]
 dsimp only [Try.f14]
 have z1 := toList_nil m.by_
 unfold rev
 have q1 := r31 v m.name ⟨#[]⟩
 simp only [Vals.enc] at q1
 by_cases h : m.by_.size = 0
 · rw [if_pos h]
   simp only [go_sem, Vals.enc, q1, z1, h]
 rw [if_neg h]
 have k1 : (1 : Int) ≤ m.by_.size := by omega
 have k2 : (0 : Int) < m.by_.size := by omega
 have q2 := r24 (bt m.by_ 0) (bt_nonneg _ _) (bt_lt _ _)
 have q3 := r32 v m.name
 have q4 := r32 v (bt m.by_ 0)
 simp only [Vals.enc] at q3 q4
 have hz := Vals.of_le hv m.name
 by_cases hb : isVar (bt m.by_ 0) = true
 · rw [if_pos hb]
   have hz2 := Vals.of_le hv (bt m.by_ 0)
   have k3 : ¬ (((v.of (bt m.by_ 0)).size + (v.of m.name).size : Nat) : Int) > 9223372036854775807 := by omega
   have q5 := r31 v m.name (v.of (bt m.by_ 0) ++ v.of m.name)
   simp only [Vals.enc] at q5
   generalize hRES : some ((v.wit m.name (v.of (bt m.by_ 0) ++ v.of m.name)).enc, ([] : List (Nat → Option Ob))) = RES
   simp only [go_sem, Vals.enc, q1, z1, h, k1, k2, q2, hb]
   rw [q_drs]
   rotate_left
   · kernel_rfl
   simp only [go_sem, q4, k2]
   rw [q_drs]
   rotate_left
   · kernel_rfl
   simp only [go_sem, q3, q5, k2, k3]
   exact hRES
 · have hb' : isVar (bt m.by_ 0) = false := by simpa using hb
   have hz2 : (m.by_.extract 0 1).size ≤ 1 := by rw [ByteArray.size_extract]; omega
   have k3 : ¬ (((m.by_.extract 0 1).size + (v.of m.name).size : Nat) : Int) > 9223372036854775807 := by omega
   rw [if_neg hb]
   have q5 := r31 v m.name (m.by_.extract 0 1 ++ v.of m.name)
   simp only [Vals.enc] at q5
   generalize hRES : some ((v.wit m.name (m.by_.extract 0 1 ++ v.of m.name)).enc, ([] : List (Nat → Option Ob))) = RES
   simp only [go_sem, Vals.enc, q1, z1, h, k1, k2, q2, hb']
   rw [q_drs]
   rotate_left
   · kernel_rfl
   simp only [go_sem, q3, q5, k2, k3]
   exact hRES
end Go.Ev
namespace Go.Ev
open Go Go.Proofs
set_option maxRecDepth 10000
set_option maxHeartbeats 4000000

theorem r50 (s : ByteArray) (hs : s.size ≤ 9223372036854775806) : run EE 50 [.str s] [] = some (.bool (isTerm s), []) := by
 rw [run_eq EE 50 _ _ Try.func50 (by decide +kernel) rfl (show 1 ≤ _ by decide)]
 dsimp only [Try.f50]
 simp only [go_sem]
 unfold isTerm
 refine iter_inv (fun i : Nat => i ≤ s.size) (fun i => { t := upd (upd e0 3 (.int .i64 (i : Int))) 0 (.str s), b := n0, o := [], r := #[ResultVar.tmp 2], f := 50, n := 25 }) (fun i => some (.bool (allB termC s i && decide ((s.size : Int) ≤ 12)), [])) (fun i => s.size - i) ?_ 0 (Nat.zero_le _)
 intro i hi ih
 by_cases h : i < s.size
 rotate_left
 · have k1 : ¬ (i : Int) < s.size := by omega
   rw [allB_end _ _ h]
   simp only [go_sem, k1, Bool.true_and]
 have k1 : (i : Int) < s.size := by omega
 have k0 : (0 : Int) ≤ i := by omega
 have wi := wrap_nat (n := i) (by omega)
 have q1 := r49 (bt s i)
 have q2 := r30 (bt s i)
 have ihn := ih (i + 1) h (by omega)
 rw [allB_next _ _ h]
 by_cases g : ltr (bt s i) < 0
 rotate_left
 · have e1 : termC (bt s i) = true := by unfold termC; rw [decide_eq_true (by omega)]; rfl
   rw [e1, Bool.true_and]
   simp only [go_sem, k0, k1, q1, q2, g, wi]
   exact ihn
 by_cases g2 : isVar (bt s i) = true
 · have e1 : termC (bt s i) = true := by unfold termC; rw [g2, Bool.or_true]
   rw [e1, Bool.true_and]
   simp only [go_sem, k0, k1, q1, q2, g, g2, wi]
   exact ihn
 · have g2' : isVar (bt s i) = false := by simpa using g2
   have e1 : termC (bt s i) = false := by unfold termC; rw [g2', Bool.or_false, decide_eq_false (by omega)]
   rw [e1, Bool.false_and, Bool.false_and]
   simp only [go_sem, k0, k1, q1, q2, g, g2', wi]
theorem r51 : run EE 51 [.agg [.int .i64 0, .str ⟨#[]⟩, .slc false 3 []]] [] = some (.bool true, []) := by
 rw [run_eq EE 51 _ _ Try.func51 (by decide +kernel) rfl (show 1 ≤ _ by decide)]
 dsimp only [Try.f51]
 simp only [go_sem]
 all_goals rfl
theorem r37 (e : Equ) (hl : e.left.size ≤ 9223372036854775806) (hr : e.right.size ≤ 9223372036854775806) : run EE 37 [.agg (C1 e)] [] = some (.bool (goodE e), []) := by
 rw [run_eq EE 37 _ _ Try.func37 (by decide +kernel) rfl (show 1 ≤ _ by decide)]
 dsimp only [Try.f37]
 have q1 := r50 e.left hl
 have q2 := r50 e.right hr
 have q3 := r51
 unfold goodE
 by_cases h1 : isTerm e.left = true
 · by_cases h2 : isTerm e.right = true
   · simp only [go_sem, C1, q1, q2, q3, h1, h2]
     all_goals rfl
   · have h2' : isTerm e.right = false := by simpa using h2
     simp only [go_sem, C1, q1, q2, q3, h1, h2']
     all_goals rfl
 · have h1' : isTerm e.left = false := by simpa using h1
   simp only [go_sem, C1, q1, q2, q3, h1']
   all_goals rfl
theorem r17 (e : Equ) (hl : e.left.size ≤ 9223372036854775806) (hr : e.right.size ≤ 9223372036854775806) : run EE 17 [P1 e] [] = some (.bool (goodE e), []) := by
 have q := r37 e hl hr
 simp only [C1] at q
 rw [run_eq EE 17 _ _ Try.func17 (by decide +kernel) rfl (show 1 ≤ _ by decide)]
 dsimp only [Try.f17]
 by_cases h : goodE e = true
 · rw [h] at q ⊢
   simp only [go_sem, P1, C1, q]
   unfold iter
   simp only [go_sem, q]
   unfold iter
   simp only [go_sem, q]
   all_goals rfl
 · have h' : goodE e = false := by simpa using h
   rw [h'] at q ⊢
   simp only [go_sem, P1, C1, q]
   unfold iter
   simp only [go_sem, q]
   all_goals rfl
theorem r41 (s : ByteArray) (hs : s.size ≤ 9223372036854775806) : ∃ r : ByteArray, r.size ≤ 3 ∧ run EE 41 [.str s] [] = some (.str r, []) := by
 suffices H : ∀ Q : Rs → Prop, (∀ r : ByteArray, r.size ≤ 3 → Q (some (.str r, []))) → Q (run EE 41 [.str s] []) from
   H (fun x => ∃ r : ByteArray, r.size ≤ 3 ∧ x = some (.str r, [])) fun r h => ⟨r, h, rfl⟩
 intro Q hQ
 rw [run_eq EE 41 _ _ Try.func41 (by decide +kernel) rfl (show 1 ≤ _ by decide)]
 dsimp only [Try.f41]
 simp only [go_sem]
 refine iter_ex (fun x : Nat × ByteArray => x.1 ≤ 3 ∧ x.2.size ≤ x.1) (fun x => { t := upd (upd (upd e0 4 (.int .i64 (x.1 : Int))) 3 (.str x.2)) 0 (.str s), b := n0, o := [], r := #[ResultVar.tmp 2], f := 41, n := 21 }) Q (fun x => 3 - x.1) ?_ (0, ⟨#[]⟩) ⟨Nat.zero_le _, Nat.le_refl _⟩
 rintro ⟨k, out⟩ ⟨hk, ho⟩ ih
 dsimp only at hk ho ⊢
 by_cases hh : k < 3
 rotate_left
 · have k1 : ¬ (k : Int) < 3 := by omega
   have := hQ out (by omega)
   simp only [go_sem, k1]
   exact this
 have k1 : (k : Int) < 3 := by omega
 have k0 : (0 : Int) ≤ k := by omega
 have e3 : (ByteArray.mk #[88, 89, 90]).size = 3 := rfl
 have k2 : (k : Int) < (ByteArray.mk #[88, 89, 90]).size := by rw [e3]; omega
 have k3 : ((k + 1 : Nat) : Int) ≤ (ByteArray.mk #[88, 89, 90]).size := by rw [e3]; omega
 have k4 : (k : Int) ≤ ((k + 1 : Nat) : Int) := by omega
 have wk := wrap_nat (n := k) (by omega)
 have q1 := r45 s (bt ⟨#[88, 89, 90]⟩ k) hs
 have hz : (ByteArray.extract ⟨#[88, 89, 90]⟩ k (k + 1)).size ≤ 1 := by rw [ByteArray.size_extract]; omega
 have q3 : ¬ ((out.size + (ByteArray.extract ⟨#[88, 89, 90]⟩ k (k + 1)).size : Nat) : Int) > 9223372036854775807 := by omega
 have ih1 := ih (k + 1, out) ⟨hh, by show out.size ≤ k + 1; omega⟩ (by show 3 - (k + 1) < 3 - k; omega)
 have ih2 := ih (k + 1, out ++ ByteArray.extract ⟨#[88, 89, 90]⟩ k (k + 1)) ⟨hh, by rw [ByteArray.size_append]; show _ ≤ k + 1; omega⟩ (by show 3 - (k + 1) < 3 - k; omega)
 dsimp only at ih1 ih2
 by_cases g : (cntB (bt ⟨#[88, 89, 90]⟩ k) s 0 : Int) > 0
 · simp only [go_sem, k1, q1, g, wk, k0, k2, k3, k4, q3]
   exact ih2
 · simp only [go_sem, k1, q1, g, wk, k0, k2]
   exact ih1
theorem r40 (e : Equ) (hl : e.left.size ≤ 1048576) (hr : e.right.size ≤ 1048576) (hg : goodE e = true) : ∃ r : ByteArray, r.size ≤ 3 ∧ run EE 40 [.agg (C1 e)] [] = some (.str r, []) := by
 have q := r37 e (by omega) (by omega)
 rw [hg] at q
 simp only [C1] at q
 obtain ⟨r, h1, h2⟩ := r41 (e.left ++ e.right) (by rw [ByteArray.size_append]; omega)
 refine ⟨r, h1, ?_⟩
 have q3 : ¬ ((e.left.size + e.right.size : Nat) : Int) > 9223372036854775807 := by omega
 rw [run_eq EE 40 _ _ Try.func40 (by decide +kernel) rfl (show 1 ≤ _ by decide)]
 dsimp only [Try.f40]
 simp only [go_sem, C1, q, q3]
 unfold iter
 simp only [go_sem, h2]
theorem r22 (e : Equ) (hl : e.left.size ≤ 1048576) (hr : e.right.size ≤ 1048576) (hg : goodE e = true) : ∃ r : ByteArray, r.size ≤ 3 ∧ run EE 22 [P1 e] [] = some (.str r, []) := by
 have q := r17 e (by omega) (by omega)
 rw [hg] at q
 obtain ⟨r, h1, h2⟩ := r40 e hl hr hg
 obtain ⟨r2, h3, h4⟩ := r41 (⟨#[]⟩ ++ r) (by rw [ByteArray.size_append]; show 0 + r.size ≤ _; omega)
 refine ⟨r2, h3, ?_⟩
 have q3 : ¬ (((ByteArray.mk #[]).size + r.size : Nat) : Int) > 9223372036854775807 := by show ¬ ((0 + r.size : Nat) : Int) > _; omega
 simp only [P1, C1] at q h2
 rw [run_eq EE 22 _ _ Try.func22 (by decide +kernel) rfl (show 1 ≤ _ by decide)]
 dsimp only [Try.f22]
 simp only [go_sem, P1, C1]
 unfold iter
 simp only [go_sem, q, h2, q3]
 unfold iter
 simp only [go_sem, h4]
theorem r20 (e : Equ) (hl : e.left.size ≤ 1048576) (hr : e.right.size ≤ 1048576) (hg : goodE e = true) : ∃ n : Int, 2 ≤ n ∧ n ≤ 5 ∧ run EE 20 [P1 e] [] = some (.int .i64 n, []) := by
 have q := r17 e (by omega) (by omega)
 rw [hg] at q
 obtain ⟨r, h1, h2⟩ := r22 e hl hr hg
 simp only [P1, C1] at q h2
 suffices H : ∀ Q : Rs → Prop, (∀ n : Int, 2 ≤ n → n ≤ 5 → Q (some (.int .i64 n, []))) → Q (run EE 20 [P1 e] []) from
   H (fun x => ∃ n : Int, 2 ≤ n ∧ n ≤ 5 ∧ x = some (.int .i64 n, [])) fun n h h' => ⟨n, h, h', rfl⟩
 intro Q hQ
 rw [run_eq EE 20 _ _ Try.func20 (by decide +kernel) rfl (show 1 ≤ _ by decide)]
 dsimp only [Try.f20]
 have f5 := hQ 5 (by omega) (by omega)
 have f3 := hQ 3 (by omega) (by omega)
 have f2 := hQ 2 (by omega) (by omega)
 rcases (by omega : r.size = 0 ∨ r.size = 1 ∨ r.size = 2 ∨ r.size = 3) with h | h | h | h <;> simp only [go_sem, P1, C1, q, h2, h] <;> assumption
end Go.Ev
namespace Go.Ev
open Go Go.Proofs
set_option maxRecDepth 10000
set_option maxHeartbeats 4000000

theorem r38 (n : Nat) (hn : n ≤ 5) : ∃ ws : List ByteArray, ws.length ≤ 243 ∧ (∀ w ∈ ws, w.size ≤ 5) ∧ run EE 38 [.int .i64 n] [] = some (.slc false 1 (ws.map V.str), []) := by
 suffices H : ∀ Q : Rs → Prop, (∀ ws : List ByteArray, ws.length ≤ 243 → (∀ w ∈ ws, w.size ≤ 5) → Q (some (.slc false 1 (ws.map V.str), []))) → Q (run EE 38 [.int .i64 n] []) from
   H (fun x => ∃ ws : List ByteArray, ws.length ≤ 243 ∧ (∀ w ∈ ws, w.size ≤ 5) ∧ x = some (.slc false 1 (ws.map V.str), [])) fun ws h1 h2 => ⟨ws, h1, h2, rfl⟩
 intro Q hQ
 have q1 := r54 n 0 5
 have d1 : (decide ((0 : Int) ≤ n) && decide ((n : Int) ≤ 5)) = true := by
   rw [Bool.and_eq_true, decide_eq_true_eq, decide_eq_true_eq]; omega
 rw [d1] at q1
 rw [run_eq EE 38 _ _ Try.func38 (by decide +kernel) rfl (show 1 ≤ _ by decide)]
 dsimp only [Try.f38]
 simp only [go_sem, q1]
 refine iter_ex (fun x : Nat × List ByteArray => x.1 ≤ n ∧ x.2.length = 3 ^ x.1 ∧ ∀ w ∈ x.2, w.size = x.1) (fun x => { t := upd (upd (upd e0 4 (.int .i64 (x.1 : Int))) 3 (.slc false 1 (x.2.map V.str))) 0 (.int .i64 (n : Int)), b := n0, o := [], r := #[ResultVar.tmp 2], f := 38, n := 43 }) Q (fun x => n - x.1) ?_ (0, [⟨#[]⟩]) ⟨Nat.zero_le _, rfl, by intro w hw; obtain rfl := List.mem_singleton.1 hw; rfl⟩
 rintro ⟨k, ws⟩ ⟨hk, hl, hs⟩ ih
 dsimp only at hk hl hs ⊢
 have hp : 3 ^ k ≤ 243 := by
   have := Nat.pow_le_pow_right (show 0 < 3 by decide) (show k ≤ 5 by omega)
   omega
 by_cases hh : k < n
 rotate_left
 · have k1 : ¬ (k : Int) < n := by omega
   have fin := hQ ws (by omega) (fun w hw => by rw [hs w hw]; omega)
   simp only [go_sem, k1]
   exact fin
 have k1 : (k : Int) < n := by omega
 have wk := wrap_nat (n := k) (by omega)
 simp only [go_sem, k1]
 refine iter_ex (fun x : Nat × List ByteArray => x.1 ≤ ws.length ∧ x.2.length = 3 * x.1 ∧ ∀ w ∈ x.2, w.size = k + 1) (fun x => { t := upd (upd (upd (upd (upd e0 6 (.int .i64 (x.1 : Int))) 5 (.slc true 1 (x.2.map V.str))) 4 (.int .i64 (k : Int))) 3 (.slc false 1 (ws.map V.str))) 0 (.int .i64 (n : Int)), b := n0, o := [], r := #[ResultVar.tmp 2], f := 38, n := 43 }) Q (fun x => ws.length - x.1) ?_ (0, []) ⟨Nat.zero_le _, rfl, by intro w hw; cases hw⟩
 rintro ⟨i, nx⟩ ⟨hi, hn1, hn2⟩ ih2
 dsimp only at hi hn1 hn2 ⊢
 by_cases hh2 : i < ws.length
 rotate_left
 · have k2 : ¬ (i : Int) < ws.length := by omega
   have e : i = ws.length := by omega
   have := ih (k + 1, nx) ⟨hh, by show nx.length = 3 ^ (k + 1); rw [hn1, e, hl, Nat.pow_succ]; omega, hn2⟩ (by show n - (k + 1) < n - k; omega)
   dsimp only at this
   simp only [go_sem, k2, List.length_map, wk]
   exact this
 have k2 : (i : Int) < ws.length := by omega
 have wi := wrap_nat (n := i) (by omega)
 simp only [go_sem, k2, List.length_map]
 refine iter_ex (fun x : Nat × List ByteArray => x.1 ≤ 3 ∧ x.2.length = 3 * i + x.1 ∧ ∀ w ∈ x.2, w.size = k + 1) (fun x => { t := upd (upd (upd (upd (upd (upd e0 7 (.int .i64 (x.1 : Int))) 6 (.int .i64 (i : Int))) 5 (.slc true 1 (x.2.map V.str))) 4 (.int .i64 (k : Int))) 3 (.slc false 1 (ws.map V.str))) 0 (.int .i64 (n : Int)), b := n0, o := [], r := #[ResultVar.tmp 2], f := 38, n := 43 }) Q (fun x => 3 - x.1) ?_ (0, nx) ⟨Nat.zero_le _, hn1, hn2⟩
 rintro ⟨j, nx⟩ ⟨hj, hm1, hm2⟩ ih3
 dsimp only at hj hm1 hm2 ⊢
 by_cases hh3 : j < 3
 rotate_left
 · have k3 : ¬ (j : Int) < 3 := by omega
   have := ih2 (i + 1, nx) ⟨hh2, by show nx.length = 3 * (i + 1); omega, hm2⟩ (by show ws.length - (i + 1) < ws.length - i; omega)
   dsimp only at this
   simp only [go_sem, k3, wi]
   exact this
 have k3 : (j : Int) < 3 := by omega
 have j0 : (0 : Int) ≤ j := by omega
 have i0 : (0 : Int) ≤ i := by omega
 have e3 : (ByteArray.mk #[97, 98, 99]).size = 3 := rfl
 have k4 : ((j + 1 : Nat) : Int) ≤ (ByteArray.mk #[97, 98, 99]).size := by rw [e3]; omega
 have k5 : (j : Int) ≤ ((j + 1 : Nat) : Int) := by omega
 have wj := wrap_nat (n := j) (by omega)
 have hz : (ByteArray.extract ⟨#[97, 98, 99]⟩ j (j + 1)).size = 1 := by rw [ByteArray.size_extract]; omega
 have hw := hs _ (List.getElem_mem hh2)
 have q3 : ¬ ((ws[i].size + (ByteArray.extract ⟨#[97, 98, 99]⟩ j (j + 1)).size : Nat) : Int) > 9223372036854775807 := by omega
 have a1 : (nx.length + 1) * 16 ≤ 140737488355328 := by omega
 have := ih3 (j + 1, nx ++ [ws[i] ++ ByteArray.extract ⟨#[97, 98, 99]⟩ j (j + 1)]) ⟨hh3, by simp only [List.length_append, List.length_cons, List.length_nil]; omega, fun w hw' => by
   rcases List.mem_append.1 hw' with h | h
   · exact hm2 w h
   · obtain rfl := List.mem_singleton.1 h
     rw [ByteArray.size_append]; omega⟩ (by show 3 - (j + 1) < 3 - j; omega)
 simp only [List.map_append, List.map_cons, List.map_nil] at this
 simp only [go_sem, k3]
 rw [q_drs]
 rotate_left
 · kernel_rfl
 simp only [go_sem, k2, k4, k5, j0, i0, wj, q3, a1, getD_str hh2, List.length_map, toNat_cast]
 exact this
theorem r18 (n : Nat) (hn : n ≤ 5) : ∃ ws : List ByteArray, ws.length ≤ 10000 ∧ (∀ w ∈ ws, w.size ≤ 5) ∧ run EE 18 [.int .i64 n] [] = some (.slc true 1 (ws.map V.str), []) := by
 suffices H : ∀ Q : Rs → Prop, (∀ ws : List ByteArray, ws.length ≤ 10000 → (∀ w ∈ ws, w.size ≤ 5) → Q (some (.slc true 1 (ws.map V.str), []))) → Q (run EE 18 [.int .i64 n] []) from
   H (fun x => ∃ ws : List ByteArray, ws.length ≤ 10000 ∧ (∀ w ∈ ws, w.size ≤ 5) ∧ x = some (.slc true 1 (ws.map V.str), [])) fun ws h1 h2 => ⟨ws, h1, h2, rfl⟩
 intro Q hQ
 rw [run_eq EE 18 _ _ Try.func18 (by decide +kernel) rfl (show 1 ≤ _ by decide)]
 dsimp only [Try.f18]
 simp only [go_sem]
 refine iter_ex (fun x : Nat × List ByteArray => x.1 ≤ n + 1 ∧ x.2.length ≤ 243 * x.1 ∧ ∀ w ∈ x.2, w.size ≤ 5) (fun x => { t := upd (upd (upd e0 4 (.int .i64 (x.1 : Int))) 3 (.slc true 1 (x.2.map V.str))) 0 (.int .i64 (n : Int)), b := n0, o := [], r := #[ResultVar.tmp 2], f := 18, n := 20 }) Q (fun x => n + 1 - x.1) ?_ (0, []) ⟨Nat.zero_le _, Nat.le_refl _, by intro w hw; cases hw⟩
 rintro ⟨k, ws⟩ ⟨hk, hl, hs⟩ ih
 dsimp only at hk hl hs ⊢
 by_cases hh : k ≤ n
 rotate_left
 · have k1 : ¬ (k : Int) ≤ n := by omega
   have fin := hQ ws (by omega) hs
   simp only [go_sem, k1]
   exact fin
 have k1 : (k : Int) ≤ n := by omega
 have k2 : (k : Int) ≤ 5 := by omega
 have wk := wrap_nat (n := k) (by omega)
 obtain ⟨ws2, g1, g2, g3⟩ := r38 k (by omega)
 have a1 : (ws.length + ws2.length) * 16 ≤ 140737488355328 := by omega
 have := ih (k + 1, ws ++ ws2) ⟨by show k + 1 ≤ n + 1; omega, by show (ws ++ ws2).length ≤ _; rw [List.length_append]; omega, fun w hw => by
   rcases List.mem_append.1 hw with h | h
   · exact hs w h
   · exact g2 w h⟩ (by show n + 1 - (k + 1) < n + 1 - k; omega)
 simp only [List.map_append] at this
 simp only [go_sem, k1, k2, g3, a1, wk, List.length_map]
 exact this
end Go.Ev
namespace Go.Ev
open Go Go.Proofs
set_option maxRecDepth 10000
set_option maxHeartbeats 4000000

theorem r55 (e : Equ) (v : Vals) (hl : e.left.size ≤ 1048576) (hr : e.right.size ≤ 1048576) (hv : v.le 1048576) : run EE 55 [.agg (C1 e), v.enc] [] = some (.bool (decide (appB e.left v = appB e.right v)), []) := by
 have q1 := r13 e.left v (by omega) hv
 have q2 := r13 e.right v (by omega) hv
 simp only [Vals.enc] at q1 q2
 rw [run_eq EE 55 _ _ Try.func55 (by decide +kernel) rfl (show 2 ≤ _ by decide)]
 dsimp only [Try.f55]
 simp only [go_sem, C1, Vals.enc, q1, q2, toList_beq]
theorem r39 (e : Equ) (v : Vals) (hl : e.left.size ≤ 1048576) (hr : e.right.size ≤ 1048576) (hv : v.le 1048576) : run EE 39 [P1 e, v.enc] [] = some (.bool (decide (appB e.left v = appB e.right v)), []) := by
 have q1 := r55 e v hl hr hv
 simp only [C1, Vals.enc] at q1
 rw [run_eq EE 39 _ _ Try.func39 (by decide +kernel) rfl (show 2 ≤ _ by decide)]
 dsimp only [Try.f39]
 simp only [go_sem, P1, C1, Vals.enc]
 unfold iter
 simp only [go_sem]
 rw [q_drs]
 rotate_left
 · kernel_rfl
 by_cases h : appB e.left v = appB e.right v
 · rw [decide_eq_true h] at q1 ⊢
   simp only [go_sem, q1]
   unfold iter
   simp only [go_sem]
 · rw [decide_eq_false h] at q1 ⊢
   simp only [go_sem, q1]
def AllAt (e : Equ) (ws : List ByteArray) (m : Nat) : Prop := ∀ (vars : ByteArray) (v : Vals) (out : List Vals) (o : List (Nat → Option Ob)), vars.size = m → v.le 5 → out.length + 10000 ^ m ≤ 2000000000000 → (∀ u ∈ out, Solves e u) →
   ∃ out' : List Vals, out'.length ≤ out.length + 10000 ^ m ∧ (∀ u ∈ out', Solves e u) ∧ run EE 21 [P1 e, .str vars, .slc false 1 (ws.map V.str), v.enc, .uq 3 (out.map Vals.enc)] o = some (.uq 3 (out'.map Vals.enc), o)
theorem all0 (e : Equ) (hl : e.left.size ≤ 1048576) (hr : e.right.size ≤ 1048576) (ws : List ByteArray) (vars : ByteArray) (hm : vars.size = 0) (v : Vals) (hv : v.le 1048576) (out : List Vals) (ho : out.length ≤ 2000000000000) (o : List (Nat → Option Ob)) :
   run EE 21 [P1 e, .str vars, .slc false 1 (ws.map V.str), v.enc, .uq 3 (out.map Vals.enc)] o = some (.uq 3 ((if appB e.left v = appB e.right v then out ++ [v] else out).map Vals.enc), o) := by
 have z1 := toList_nil vars
 have q := r39 e v hl hr hv
 simp only [P1, C1, Vals.enc] at q
 have a1 : (out.length + 1) * 48 ≤ 140737488355328 := by omega
 have me : (out ++ [v]).map Vals.enc = out.map Vals.enc ++ [.agg [.str v.x, .str v.y, .str v.z]] := by simp [Vals.enc]
 rw [run_eq EE 21 _ _ Try.func21 (by decide +kernel) rfl (show 5 ≤ _ by decide)]
 dsimp only [Try.f21]
 by_cases h : appB e.left v = appB e.right v
 · rw [decide_eq_true h] at q
   rw [if_pos h, me]
   have aL : ((out.map Vals.enc).length + 1) * 48 ≤ 140737488355328 := by rw [List.length_map]; exact a1
   generalize out.map Vals.enc = L at aL ⊢
   simp only [go_sem, P1, C1, Vals.enc, z1, hm, q, aL]
 · rw [decide_eq_false h] at q
   rw [if_neg h]
   generalize out.map Vals.enc = L
   simp only [go_sem, P1, C1, Vals.enc, z1, hm, q]
theorem allAt0 (e : Equ) (hl : e.left.size ≤ 1048576) (hr : e.right.size ≤ 1048576) (ws : List ByteArray) : AllAt e ws 0 := by
 intro vars v out o hm hv ho hs
 have h1 : 10000 ^ 0 = 1 := rfl
 refine ⟨_, ?_, ?_, all0 e hl hr ws vars hm v ⟨by have := hv.1; omega, by have := hv.2.1; omega, by have := hv.2.2; omega⟩ out (by omega) o⟩
 · split
   · simp
   · omega
 · intro u hu
   split at hu
   · rename_i h
     rcases List.mem_append.1 hu with h' | h'
     · exact hs u h'
     · obtain rfl := List.mem_singleton.1 h'
       exact ⟨hv, h⟩
   · exact hs u hu
theorem allAtS (e : Equ) (ws : List ByteArray) (hw : ws.length ≤ 10000) (hw5 : ∀ w ∈ ws, w.size ≤ 5) (m : Nat) (IH : AllAt e ws m) : AllAt e ws (m + 1) := by
 intro vars v out o hm hv ho hs
 have hp : 10000 ^ (m + 1) = 10000 ^ m * 10000 := Nat.pow_succ ..
 suffices H : ∀ Q : Rs → Prop, (∀ out' : List Vals, out'.length ≤ out.length + 10000 ^ (m + 1) → (∀ u ∈ out', Solves e u) → Q (some (.uq 3 (out'.map Vals.enc), o))) → Q (run EE 21 [P1 e, .str vars, .slc false 1 (ws.map V.str), v.enc, .uq 3 (out.map Vals.enc)] o) from
   H (fun r => ∃ out' : List Vals, out'.length ≤ out.length + 10000 ^ (m + 1) ∧ (∀ u ∈ out', Solves e u) ∧ r = some (.uq 3 (out'.map Vals.enc), o)) fun out' h1 h2 => ⟨out', h1, h2, rfl⟩
 intro Q hQ
 have z1 := toList_nil vars
 have z0 : ¬ vars.size = 0 := by omega
 rw [run_eq EE 21 _ _ Try.func21 (by decide +kernel) rfl (show 5 ≤ _ by decide)]
 dsimp only [Try.f21]
 simp only [go_sem, P1, C1, Vals.enc, z1, z0]
 refine iter_ex (fun x : Nat × List Vals => x.1 ≤ ws.length ∧ x.2.length ≤ out.length + x.1 * 10000 ^ m ∧ ∀ u ∈ x.2, Solves e u) (fun x => { t := upd (upd (upd (upd (upd (upd e0 11 (.int .i64 (x.1 : Int))) 8 (.ptr o.length 8 0)) 5 (.ptr o.length 5 0)) 4 (.uq 3 (x.2.map Vals.enc))) 2 (.slc false 1 (ws.map V.str))) 1 (.str vars), b := upd (upd n0 8 (some (Ob.box [.str v.x, .str v.y, .str v.z]))) 5 (some (Ob.box [.slc false 8 [.agg (C1 e)]])), o := o, r := #[ResultVar.tmp 10], f := 21, n := 43 }) Q (fun x => ws.length - x.1) ?_ (0, out) ⟨Nat.zero_le _, by show out.length ≤ out.length + 0 * _; omega, hs⟩
 rintro ⟨k, us⟩ ⟨hk, hl2, hs2⟩ ih
 dsimp only at hk hl2 hs2 ⊢
 by_cases hh : k < ws.length
 rotate_left
 · have k1 : ¬ (k : Int) < ws.length := by omega
   have e1 : k * 10000 ^ m ≤ 10000 * 10000 ^ m := Nat.mul_le_mul_right _ (by omega)
   have fin := hQ us (by omega) hs2
   simp only [go_sem, k1, List.length_map]
   exact fin
 have k1 : (k : Int) < ws.length := by omega
 have k0 : (0 : Int) ≤ k := by omega
 have wk := wrap_nat (n := k) (by omega)
 have v1 : (1 : Int) ≤ vars.size := by omega
 have v0 : (0 : Int) < vars.size := by omega
 have q1 := r28 v (bt vars 0) ws[k]
 simp only [Vals.enc] at q1
 have e2 : (k + 1) * 10000 ^ m ≤ 10000 * 10000 ^ m := Nat.mul_le_mul_right _ (by omega)
 have e3 : (k + 1) * 10000 ^ m = k * 10000 ^ m + 10000 ^ m := by rw [Nat.add_mul, Nat.one_mul]
 obtain ⟨out', g1, g2, g3⟩ := IH (vars.extract 1 vars.size) (v.wit (bt vars 0) ws[k]) us (upd (upd n0 8 (some (Ob.box [.str v.x, .str v.y, .str v.z]))) 5 (some (Ob.box [.slc false 8 [.agg [.int .i64 1, .str e.left, .str e.right, .int .i64 0, .str ⟨#[]⟩, .slc false 3 [], .slc false 1 [], .int .i64 0]]])) :: o) (by rw [ByteArray.size_extract]; omega) (Vals.wit_le hv (hw5 _ (List.getElem_mem hh)) _) (by omega) hs2
 simp only [P1, C1, Vals.enc] at g3
 have ihn := ih (k + 1, out') ⟨hh, by show out'.length ≤ out.length + (k + 1) * _; omega, g2⟩ (by show ws.length - (k + 1) < ws.length - k; omega)
 simp only [C1] at ihn
 simp only [go_sem, k1, C1, List.length_map]
 rw [q_drs]
 rotate_left
 · kernel_rfl
 simp only [go_sem, k1, k0, v1, v0, q1, g3, wk, List.length_map, toNat_cast, getD_str hh]
 exact ihn
theorem allAt (e : Equ) (hl : e.left.size ≤ 1048576) (hr : e.right.size ≤ 1048576) (ws : List ByteArray) (hw : ws.length ≤ 10000) (hw5 : ∀ w ∈ ws, w.size ≤ 5) : ∀ m, AllAt e ws m := by
 intro m
 induction m with
 | zero => exact allAt0 e hl hr ws
 | succ m ih => exact allAtS e ws hw hw5 m ih
theorem r6 (e : Equ) (hl : e.left.size ≤ 1048576) (hr : e.right.size ≤ 1048576) : ∃ (us : List Vals) (R : V), us.length ≤ 2000000000000 ∧ (∀ u ∈ us, Solves e u ∧ goodE e = true) ∧ (R = .uq 3 (us.map Vals.enc) ∨ R = .slc true 3 [] ∧ us = []) ∧ run EE 6 [P1 e, .int .i64 2] [] = some (R, []) := by
 suffices H : ∀ Q : Rs → Prop, (∀ (us : List Vals) (R : V), us.length ≤ 2000000000000 → (∀ u ∈ us, Solves e u ∧ goodE e = true) → (R = .uq 3 (us.map Vals.enc) ∨ R = .slc true 3 [] ∧ us = []) → Q (some (R, []))) → Q (run EE 6 [P1 e, .int .i64 2] []) from
   H (fun r => ∃ (us : List Vals) (R : V), us.length ≤ 2000000000000 ∧ (∀ u ∈ us, Solves e u ∧ goodE e = true) ∧ (R = .uq 3 (us.map Vals.enc) ∨ R = .slc true 3 [] ∧ us = []) ∧ r = some (R, [])) fun us R h1 h2 h3 => ⟨us, R, h1, h2, h3, rfl⟩
 intro Q hQ
 have q := r17 e (by omega) (by omega)
 simp only [P1, C1] at q
 have nil : Q (some (.slc true 3 [], [])) := hQ [] _ (by simp) (fun u hu => by cases hu) (.inr ⟨rfl, rfl⟩)
 rw [run_eq EE 6 _ _ Try.func6 (by decide +kernel) rfl (show 2 ≤ _ by decide)]
 dsimp only [Try.f6]
 by_cases hg : goodE e = true
 rotate_left
 · have hg' : goodE e = false := by simpa using hg
   rw [hg'] at q
   simp only [go_sem, P1, C1, q]
   exact nil
 rw [hg] at q
 obtain ⟨n, n1, n2, q2⟩ := r20 e hl hr hg
 obtain ⟨vars, g1, q3⟩ := r22 e hl hr hg
 obtain ⟨ws, w1, w2, q4⟩ := r18 2 (by decide)
 simp only [P1, C1] at q2 q3
 have q5 := r19 2 n
 have e2 : (if (2 : Int) < n then (2 : Int) else n) = 2 := by split <;> omega
 rw [e2] at q5
 have q4' : run EE 18 [.int .i64 2] [] = some (.slc true 1 (ws.map V.str), []) := q4
 by_cases hz : ws.length = 0
 · simp only [go_sem, P1, C1, q, q2, q5, q4', List.length_map, hz]
   exact nil
 have hzi : ((ws.length : Int) == 0) = false := by simpa using hz
 have hpow : 10000 ^ vars.size ≤ 10000 ^ 3 := Nat.pow_le_pow_right (by decide) g1
 obtain ⟨us, u1, u2, q6⟩ := allAt e hl hr ws w1 w2 vars.size vars ⟨⟨#[]⟩, ⟨#[]⟩, ⟨#[]⟩⟩ [] [upd n0 2 (some (Ob.box [.slc false 8 [.agg [.int .i64 1, .str e.left, .str e.right, .int .i64 0, .str ⟨#[]⟩, .slc false 3 [], .slc false 1 [], .int .i64 0]]]))] rfl ⟨by decide, by decide, by decide⟩ (by simp only [List.length_nil]; omega) (fun u hu => by cases hu)
 simp only [P1, C1, Vals.enc, List.map_nil] at q6
 have fin := hQ us _ (by simp only [List.length_nil] at u1; omega) (fun u hu => ⟨u2 u hu, hg⟩) (.inl rfl)
 simp only [go_sem, P1, C1, q, q2, q5, q4', List.length_map, hzi]
 rw [q_drs]
 rotate_left
 · kernel_rfl
 simp only [go_sem, q3, q6]
 exact fin
end Go.Ev
namespace Go.Ev
open Go Go.Proofs
set_option maxRecDepth 10000
set_option maxHeartbeats 4000000

theorem r4 (l : List Int) (hl : l.length ≤ 9223372036854775807) : run EE 4 [.slc false 1 (l.map U8)] [] = some (.bool (decide ((l.length : Int) > 1048576)), []) := by
 rw [run_eq EE 4 _ _ Try.func4 (by decide +kernel) rfl (show 1 ≤ _ by decide)]
 dsimp only [Try.f4]
 simp only [go_sem, List.length_map]
theorem law3 (l : List Int) (ok : l.length ≤ 9223372036854775807 ∧ okL (l.map (V.int .u8))) : run EE 3 [.slc false 1 (l.map U8)] [] = some (.bool true, []) := by
 have q0 := r4 l ok.1
 generalize hRES : some (V.bool true, ([] : List (Nat → Option Ob))) = RES
 rw [run_eq EE 3 _ _ Try.func3 (by decide +kernel) rfl (show 1 ≤ _ by decide)]
 dsimp only [Try.f3]
 by_cases hb : (l.length : Int) > 1048576
 · rw [decide_eq_true hb] at q0
   simp only [go_sem, q0]
   exact hRES
 rw [decide_eq_false hb] at q0
 obtain ⟨e, el, er, q1⟩ := r5 l (by omega)
 obtain ⟨us, R, ul, uS, hR, q2⟩ := r6 e (by omega) (by omega)
 have q3 := r7 e (by omega) (by omega)
 have q4 := r8 e (by omega) (by omega)
 have q5 := r9 e (by omega) (by omega)
 simp only [Equ.enc] at q1 q3 q4 q5
 simp only [P1, C1] at q2
 have hcl : us ≠ [] → clash (strip e) = false := by
   intro h
   obtain ⟨u, us', rfl⟩ := List.exists_cons_of_ne_nil h
   exact no_clash (uS u (List.mem_cons_self ..)).1 (by omega) (by omega)
 have hice := ice_vals us
 have bl : ((strip e).left.toList == (strip e).left.toList) = true := beq_self_eq_true _
 have br : ((strip e).right.toList == (strip e).right.toList) = true := beq_self_eq_true _
 have d0 : ¬ (0 : Int) > 0 := by decide
 have d1 : ¬ (0 : Int) < 0 := by decide
 by_cases hus : us = []
 · subst hus
   rcases hR with rfl | ⟨rfl, _⟩ <;> cases hc : clash (strip e) <;> rw [hc] at q3 <;> simp only [go_sem, q0, q1, q2, q3, q4, List.map_nil, d0]
   all_goals rw [q_drs]
   all_goals rotate_left
   all_goals try kernel_rfl
   all_goals simp only [go_sem, q5, bl, br, List.map_nil]
   all_goals unfold iter
   all_goals simp only [go_sem, List.map_nil, d1]
   all_goals exact hRES
 have hR' : R = .uq 3 (us.map Vals.enc) := by
   rcases hR with h | ⟨_, h⟩
   · exact h
   · exact absurd h hus
 subst hR'
 rw [hcl hus] at q3
 simp only [go_sem, q0, q1, q2, q3, q4, hice, List.length_map]
 refine (show ∀ T : Nat → V, T 3 = V.ptr 0 3 0 → T 5 = V.slc false 3 (us.map Vals.enc) → T 6 = V.ptr 0 6 0 → lim EE _ { t := T, b := _, o := _, r := _, f := _, n := _ } = RES from ?_) _ rfl rfl rfl
 intro T t3 t5 t6
 rw [q_drs]
 rotate_left
 · kernel_rfl
 simp only [go_sem, q5, bl, br, t3, t5, t6]
 have q6 := r10 e (by omega) (by omega)
 simp only [Equ.enc] at q6
 obtain ⟨sl, sr⟩ := strip_le e
 refine iter_inv (fun k : Nat => k ≤ us.length) (fun k => { t := upd (upd (upd (upd e0 7 (.int .i64 (k : Int))) 6 (.ptr 0 6 0)) 5 (.slc false 3 (us.map Vals.enc))) 3 (.ptr 0 3 0), b := upd (upd (upd n0 6 (some (Ob.box [.str (strip e).left, .str (strip e).right]))) 4 (some (Ob.box [.slc true 8 [.agg [.int .i64 1, .str e.left, .str e.right, .int .i64 0, .str ⟨#[]⟩, .slc false 3 [], .slc false 1 [], .int .i64 0]]]))) 3 (some (Ob.box [.str e.left, .str e.right])), o := [], r := #[ResultVar.tmp 2], f := 3, n := 113 }) (fun _ => RES) (fun k => us.length - k) ?_ 0 (Nat.zero_le _)
 intro k hk ih
 by_cases hh : k < us.length
 rotate_left
 · have k1 : ¬ (k : Int) < us.length := by omega
   simp only [go_sem, k1, List.length_map]
   exact hRES
 have k1 : (k : Int) < us.length := by omega
 have k0 : (0 : Int) ≤ k := by omega
 have wk := wrap_nat (n := k) (by omega)
 by_cases h40 : (k : Int) < 40
 rotate_left
 · simp only [go_sem, k1, h40, List.length_map]
   exact hRES
 have z1 := toList_nil ((strip e).left ++ (strip e).right)
 have z2 : ((strip e).left ++ (strip e).right).size = (strip e).left.size + (strip e).right.size := ByteArray.size_append
 have z3 : ¬ (((strip e).left.size + (strip e).right.size : Nat) : Int) > 9223372036854775807 := by omega
 by_cases hz : ((strip e).left ++ (strip e).right).size = 0
 · simp only [go_sem, k1, h40, List.length_map, z1, z3, hz]
   exact hRES
 have ihn := ih (k + 1) hh (by omega)
 have hex := exists_move (uS _ (List.getElem_mem hh)).1 (uS _ (List.getElem_mem hh)).2 el er (by omega)
 simp only [go_sem, k1, h40, List.length_map, z1, z3, hz, q6]
 have hml := moves_le (strip e)
 have hmb := moves_by (strip e)
 generalize moves (strip e) = ms at hex hml hmb ⊢
 have hv : (us[k]).le 5 := (uS _ (List.getElem_mem hh)).1.1
 generalize hu : us[k] = v at hex hv
 refine iter_inv (fun x : Nat × Bool => x.1 ≤ ms.length ∧ (x.2 = true ∨ ∃ j, ∃ h : j < ms.length, x.1 ≤ j ∧ Fits e v ms[j])) (fun x => { t := upd (upd (upd (upd (upd (upd (upd e0 10 (.int .i64 (x.1 : Int))) 9 (.bool x.2)) 8 (.slc false 2 (ms.map Mov.enc))) 7 (.int .i64 (k : Int))) 6 (.ptr 0 6 0)) 5 (.slc false 3 (us.map Vals.enc))) 3 (.ptr 0 3 0), b := upd (upd (upd n0 6 (some (Ob.box [.str (strip e).left, .str (strip e).right]))) 4 (some (Ob.box [.slc true 8 [.agg [.int .i64 1, .str e.left, .str e.right, .int .i64 0, .str ⟨#[]⟩, .slc false 3 [], .slc false 1 [], .int .i64 0]]]))) 3 (some (Ob.box [.str e.left, .str e.right])), o := [], r := #[ResultVar.tmp 2], f := 3, n := 113 }) (fun _ => RES) (fun x => ms.length - x.1) ?_ (0, false) ⟨Nat.zero_le _, .inr (by obtain ⟨m, hm, hf⟩ := hex; obtain ⟨j, hj, rfl⟩ := List.getElem_of_mem hm; exact ⟨j, hj, Nat.zero_le _, hf⟩)⟩
 rintro ⟨i, met⟩ ⟨hi, hm⟩ ih2
 dsimp only at hi hm ⊢
 by_cases hh2 : i < ms.length
 rotate_left
 · have k2 : ¬ (i : Int) < ms.length := by omega
   have hmt : met = true := by
     rcases hm with h | ⟨j, hj, h, _⟩
     · exact h
     · omega
   subst hmt
   simp only [go_sem, k2, List.length_map, wk]
   exact ihn
 have k2 : (i : Int) < ms.length := by omega
 have i0 : (0 : Int) ≤ i := by omega
 have wi := wrap_nat (n := i) (by omega)
 have gk : ∀ d, (us.map Vals.enc).getD k d = v.enc := fun d => by rw [getD_map hh, hu]
 have gi : ∀ d, (ms.map Mov.enc).getD i d = ms[i].enc := fun d => getD_map hh2 d
 have hmi := hmb _ (List.getElem_mem hh2)
 have next : ∀ b : Bool, (met = true → b = true) → (Fits e v ms[i] → b = true) → i + 1 ≤ ms.length ∧ (b = true ∨ ∃ j, ∃ h : j < ms.length, i + 1 ≤ j ∧ Fits e v ms[j]) := by
   intro b b1 b2
   refine ⟨hh2, ?_⟩
   rcases hm with h | ⟨j, hj, h, hf⟩
   · exact .inl (b1 h)
   · rcases Nat.eq_or_lt_of_le h with e1 | h'
     · subst e1; exact .inl (b2 hf)
     · exact .inr ⟨j, hj, h', hf⟩
 have go := fun (b : Bool) h1 h2 => ih2 (i + 1, b) (next b h1 h2) (by show ms.length - (i + 1) < ms.length - i; omega)
 clear ih2 next
 generalize ms[i] = m at gi hmi go
 simp only [Vals.enc] at gk
 simp only [Mov.enc] at gi
 have hv' : v.le 1048576 := ⟨by have := hv.1; omega, by have := hv.2.1; omega, by have := hv.2.2; omega⟩
 have q7 := r11 v m hv'
 have q8 := r12 e m (by omega) (by omega) (by omega)
 have xl := strip_le ⟨repV e.left m.name m.by_, repV e.right m.name m.by_⟩
 have yl := repV_le e.left m.name m.by_
 have yr := repV_le e.right m.name m.by_
 have hu5 := undo_le hv m
 have go2 : ∀ b : Bool, (met = true → b = true) → ((undo v m).2 = true → appB (strip ⟨repV e.left m.name m.by_, repV e.right m.name m.by_⟩).left (undo v m).1 = appB (strip ⟨repV e.left m.name m.by_, repV e.right m.name m.by_⟩).right (undo v m).1 → rev (undo v m).1 m = v → b = true) → _ := fun b h1 h2 => go b h1 fun h => h2 h.1 h.2.1 h.2.2
 clear go
 generalize undo v m = ud at q7 hu5 go2
 obtain ⟨u, ok⟩ := ud
 generalize strip ⟨repV e.left m.name m.by_, repV e.right m.name m.by_⟩ = X at q8 xl go2
 dsimp only at xl hu5 go2 q7
 have hu' : u.le 1048576 := ⟨by have := hu5.1; omega, by have := hu5.2.1; omega, by have := hu5.2.2; omega⟩
 have q9 := r13 X.left u (by omega) hu'
 have q10 := r13 X.right u (by omega) hu'
 have q11 := r14 u m hu'
 simp only [Equ.enc, Vals.enc, Mov.enc] at q7 q8 q9 q10 q11
 simp only [go_sem, k2, List.length_map]
 rw [q_drawn]
 rotate_left
 · kernel_rfl
 simp only [go_sem, still, k0, k1, k2, i0, List.length_map, toNat_cast, gk, gi, q7, eq_self]
 refine (show ∀ T : Nat → V, T 3 = V.ptr 0 3 0 → T 5 = V.slc false 3 (us.map Vals.enc) → T 6 = V.ptr 0 6 0 → T 7 = V.int .i64 (k : Int) → T 8 = V.slc false 2 (ms.map Mov.enc) → T 9 = V.bool met → T 10 = V.int .i64 (i : Int) → T 11 = V.ptr 0 11 0 → condL EE _ _ { t := T, b := _, o := _, r := _, f := _, n := _ } (V.bool (!ok)) = RES from ?_) _ rfl rfl rfl rfl rfl rfl rfl rfl
 intro T t3 t5 t6 t7 t8 t9 t10 t11
 cases ok
 · have g := go2 met id (fun h => by cases h)
   simp only [go_sem, t3, t5, t6, t7, t8, t9, t10, t11, wi, Bool.not_false]
   exact g
 simp only [go_sem, Bool.not_true]
 rw [q_drawn]
 rotate_left
 · kernel_rfl
 simp only [go_sem, still, t3, t5, t6, t7, t8, t9, t10, t11, k0, k1, k2, i0, List.length_map, toNat_cast, gk, gi, q8, eq_self]
 refine (show ∀ T : Nat → V, T 3 = V.ptr 0 3 0 → T 5 = V.slc false 3 (us.map Vals.enc) → T 6 = V.ptr 0 6 0 → T 7 = V.int .i64 (k : Int) → T 8 = V.slc false 2 (ms.map Mov.enc) → T 9 = V.bool met → T 10 = V.int .i64 (i : Int) → T 11 = V.ptr 0 11 0 → T 13 = V.ptr 0 13 0 → lim EE _ { t := T, b := _, o := _, r := _, f := _, n := _ } = RES from ?_) _ t3 t5 t6 t7 t8 t9 t10 t11 rfl
 clear t3 t5 t6 t7 t8 t9 t10 t11 T
 intro T t3 t5 t6 t7 t8 t9 t10 t11 t13
 rw [q_drs]
 rotate_left
 · kernel_rfl
 cases met
 rotate_left
 · have g := go2 true (fun _ => rfl) (fun _ _ _ => rfl)
   simp only [go_sem, t3, t5, t6, t7, t8, t9, t10, t11, t13, wi]
   exact g
 by_cases hab : appB X.left u = appB X.right u
 rotate_left
 · have g := go2 false (fun h => h) (fun _ h => absurd h hab)
   have hb' : ((appB X.left u).toList == (appB X.right u).toList) = false := by rw [toList_beq, decide_eq_false hab]
   simp only [go_sem, t3, t5, t6, t7, t8, t9, t10, t11, t13, wi, q9, q10, hb']
   exact g
 have hb' : ((appB X.left u).toList == (appB X.right u).toList) = true := by rw [toList_beq, decide_eq_true hab]
 simp only [go_sem, t3, t5, t6, t7, t8, t9, t10, t11, t13, wi, q9, q10, hb', q11, k0, k1, k2, i0, List.length_map, toNat_cast, gk, gi]
 exact go2 _ (fun h => by cases h) (fun _ _ h => by rw [h]; simp only [beq_self_eq_true, Bool.and_self])
end Go.Ev
namespace Go.Ev.Op
open Go Go.Proofs Go.RowKit Go.Ev
set_option maxRecDepth 10000
theorem un5 : Try.prog.underlying 5 = some (.int .u8) := by kernel_rfl
theorem ce5 : Try.prog.cellsOf 5 = 1 := by kernel_rfl
theorem un22 : Try.prog.underlying 22 = some (.slice 5) := by kernel_rfl
theorem ag5 : isAgg Try.prog 5 = false := by kernel_rfl
theorem ty22 : ∀ (n : Nat) (vs : List V), TyOk Try.prog n 22 vs → ∃ l : List Int, vs = [.slc false 1 (l.map (V.int .u8))] ∧ l.length ≤ 9223372036854775807 ∧ okL (l.map (V.int .u8)) := by
 intro n vs h
 cases n with
 | zero => cases h
 | succ n =>
   obtain ⟨l, h1, h2, h3⟩ := tyOk_slc un22 (f := (V.int .u8)) (fun us hu => ty_int1 ag5 un5 hu) h
   rw [ce5] at h1
   exact ⟨l, h1, h2, h3⟩
theorem closed : closedT Try.prog [5, 22] = true := by kernel_rfl
end Go.Ev.Op
