/- Searches. Leaves: letters, ranges. Automata: validity. Automata: the reference's validity, searches in lists. Automata: the reference's classes. Automata: the reference's classes, by refinement. Automata: the reference's minimal one, its result seen by nobody else. The program's minimal automaton, seen by nobody else. -/
import Derived.Test.YtcmnfoombinccaaEvU
import Derived.Test.YtcmnfoombinccaaEvP
import Derived.Test.YtcmnfoombinccaaEvQ
set_option linter.unusedVariables false
set_option linter.unusedSimpArgs false
namespace Go.Ev
open Go Go.Proofs
set_option maxRecDepth 10000
set_option linter.unusedVariables false
set_option linter.unusedSimpArgs false
theorem ix57_1 (l : List Int) (hl : l.length ≤ 9223372036854775806) (p : Int → Bool) (g : Nat) (a : Nat) (os : List (Nat → Option Ob)) (ho : os.length ≠ 0) (hp : ∀ x ∈ l, ∀ b0 : Nat → Option Ob, run EE g (I x :: [.ptr 0 a 0]) (b0 :: os) = some (.bool (p x), b0 :: os)) (hu : (EE.H g).uniq = [] := by kernel_rfl) : run EE 57 [.slc false 1 (l.map I), .fn g [.ptr 0 a 0]] os = some (.int .i64 (posP p l 0), os) := by
  have ho2 : (0 != os.length) = true := by simp; omega
  rw [run_eq EE 57 _ _ Try.func57 (by decide +kernel) rfl (show 2 ≤ _ by decide)]
  dsimp only [Try.f57]
  simp only [go_sem, ho, ho2, hu, Bool.not_false, Bool.true_or, Bool.and_self]
  refine iter_inv (fun i : Nat => i ≤ l.length) (fun i => { t := upd (upd (upd (upd e0 8 (.int .i64 i)) 7 (.int .i64 l.length)) 1 (.fn g [.ptr 0 a 0])) 0 (.slc false 1 (l.map I)), b := n0, o := os, r := #[ResultVar.tmp 4], f := 57, n := 19 }) (fun i => some (.int .i64 (posP p (l.drop i) i), os)) (fun i => l.length - i) ?_ 0 (Nat.zero_le _)
  intro i hi ih
  by_cases h : i < l.length
  · have h1 : (i : Int) < l.length := by omega
    have w := wrap_nat (n := i) (by omega)
    have hx := hp l[i] (List.getElem_mem h) n0
    rw [List.drop_eq_getElem_cons h, posP]
    generalize p l[i] = q at hx ⊢
    try simp only [Rx.enc_eq, Vals.enc, Mor.enc, Sta.enc, Con.enc, Line.enc, Ans.enc, Prob.enc, Prog.enc, Ses.enc, Equ.enc, Mon.enc, Frm.enc, Mov.enc, Stp.enc, Dfa.enc, IL, I, B] at hx
    simp only [go_sem, h1, w, getD_map h, ho, ho2, hu, hx]
    cases q
    · simp only [go_sem, w, ho, ho2, hu, Bool.false_eq_true, if_false]
      exact ih (i + 1) (by omega) (by omega)
    · simp only [go_sem, if_true]
  · have h1 : ¬ (i : Int) < l.length := by omega
    rw [List.drop_eq_nil_of_le (by omega)]
    simp only [go_sem, h1, posP]
theorem cf45_1 (l : List Int) (hl : l.length ≤ 9223372036854775806) (p : Int → Bool) (g : Nat) (a : Nat) (os : List (Nat → Option Ob)) (ho : os.length ≠ 0) (hp : ∀ x ∈ l, ∀ b0 b1 : Nat → Option Ob, run EE g (I x :: [.ptr 0 a 0]) (b0 :: b1 :: os) = some (.bool (p x), b0 :: b1 :: os)) (hu : (EE.H g).uniq = [] := by kernel_rfl) : run EE 45 [.slc false 1 (l.map I), .fn g [.ptr 0 a 0]] os = some (.bool (l.any p), os) := by
  have hi := ix57_1 l hl p g a (n0 :: os) (by simp) (fun x hx b0 => hp x hx b0 n0) hu
  rw [run_eq EE 45 _ _ Try.func45 (by decide +kernel) rfl (show 2 ≤ _ by decide)]
  dsimp only [Try.f45]
  simp only [go_sem, ho, hu, hi, Bool.not_false, Bool.true_or, Bool.and_self]
  rw [← posP_any p l 0]

theorem ix56_1 (l : List (List Int)) (hl : l.length ≤ 9223372036854775806) (p : (List Int) → Bool) (g : Nat) (a : Nat) (os : List (Nat → Option Ob)) (ho : os.length ≠ 0) (hp : ∀ x ∈ l, ∀ b0 : Nat → Option Ob, run EE g (IL x :: [.ptr 0 a 0]) (b0 :: os) = some (.bool (p x), b0 :: os)) (hu : (EE.H g).uniq = [] := by kernel_rfl) : run EE 56 [.slc false 1 (l.map IL), .fn g [.ptr 0 a 0]] os = some (.int .i64 (posP p l 0), os) := by
  have ho2 : (0 != os.length) = true := by simp; omega
  rw [run_eq EE 56 _ _ Try.func56 (by decide +kernel) rfl (show 2 ≤ _ by decide)]
  dsimp only [Try.f56]
  simp only [go_sem, ho, ho2, hu, Bool.not_false, Bool.true_or, Bool.and_self]
  refine iter_inv (fun i : Nat => i ≤ l.length) (fun i => { t := upd (upd (upd (upd e0 8 (.int .i64 i)) 7 (.int .i64 l.length)) 1 (.fn g [.ptr 0 a 0])) 0 (.slc false 1 (l.map IL)), b := n0, o := os, r := #[ResultVar.tmp 4], f := 56, n := 19 }) (fun i => some (.int .i64 (posP p (l.drop i) i), os)) (fun i => l.length - i) ?_ 0 (Nat.zero_le _)
  intro i hi ih
  by_cases h : i < l.length
  · have h1 : (i : Int) < l.length := by omega
    have w := wrap_nat (n := i) (by omega)
    have hx := hp l[i] (List.getElem_mem h) n0
    rw [List.drop_eq_getElem_cons h, posP]
    generalize p l[i] = q at hx ⊢
    try simp only [Rx.enc_eq, Vals.enc, Mor.enc, Sta.enc, Con.enc, Line.enc, Ans.enc, Prob.enc, Prog.enc, Ses.enc, Equ.enc, Mon.enc, Frm.enc, Mov.enc, Stp.enc, Dfa.enc, IL, I, B] at hx
    simp only [go_sem, h1, w, getD_map h, ho, ho2, hu, hx]
    cases q
    · simp only [go_sem, w, ho, ho2, hu, Bool.false_eq_true, if_false]
      exact ih (i + 1) (by omega) (by omega)
    · simp only [go_sem, if_true]
  · have h1 : ¬ (i : Int) < l.length := by omega
    rw [List.drop_eq_nil_of_le (by omega)]
    simp only [go_sem, h1, posP]
theorem cf43_1 (l : List (List Int)) (hl : l.length ≤ 9223372036854775806) (p : (List Int) → Bool) (g : Nat) (a : Nat) (os : List (Nat → Option Ob)) (ho : os.length ≠ 0) (hp : ∀ x ∈ l, ∀ b0 b1 : Nat → Option Ob, run EE g (IL x :: [.ptr 0 a 0]) (b0 :: b1 :: os) = some (.bool (p x), b0 :: b1 :: os)) (hu : (EE.H g).uniq = [] := by kernel_rfl) : run EE 43 [.slc false 1 (l.map IL), .fn g [.ptr 0 a 0]] os = some (.bool (l.any p), os) := by
  have hi := ix56_1 l hl p g a (n0 :: os) (by simp) (fun x hx b0 => hp x hx b0 n0) hu
  rw [run_eq EE 43 _ _ Try.func43 (by decide +kernel) rfl (show 2 ≤ _ by decide)]
  dsimp only [Try.f43]
  simp only [go_sem, ho, hu, hi, Bool.not_false, Bool.true_or, Bool.and_self]
  rw [← posP_any p l 0]
end Go.Ev
namespace Go.Ev
open Go Go.Proofs
set_option maxRecDepth 10000
set_option linter.unusedVariables false
set_option linter.unusedSimpArgs false

theorem r47 (c : Int) (h : 0 ≤ c) (h' : c < 256) : run EE 47 [.int .u8 c] [] = some (.int .i64 (ltr c), []) := by
  rw [run_eq EE 47 _ _ Try.func47 (by decide +kernel) rfl (show 1 ≤ _ by decide)]
  dsimp only [Try.f47]
  simp only [go_sem, o58, idx_abc c h h']
theorem r50 (c : Int) : run EE 50 [.int .u8 c] [] = some (.int .i64 (ltr c), []) := by
  rw [run_eq EE 50 _ _ Try.func50 (by decide +kernel) rfl (show 1 ≤ _ by decide)]
  dsimp only [Try.f50]
  have b0 : bt ⟨#[97, 98, 99]⟩ 0 = 97 := by decide +kernel
  have b1 : bt ⟨#[97, 98, 99]⟩ 1 = 98 := by decide +kernel
  have b2 : bt ⟨#[97, 98, 99]⟩ 2 = 99 := by decide +kernel
  have hz : ByteArray.size ⟨#[97, 98, 99]⟩ = 3 := by decide
  simp only [go_sem, iter_eq, b0, hz]
  refine condL_bool (fun k => ?_) (fun k => ?_)
  · have e : c = 97 := by have := eq_of_beq k; omega
    subst e
    simp only [go_sem, ltr]
  · have e : ¬ c = 97 := by intro e; subst e; cases k
    simp only [go_sem, iter_eq, b1, hz]
    refine condL_bool (fun k => ?_) (fun k => ?_)
    · have e' : c = 98 := by have := eq_of_beq k; omega
      subst e'
      simp only [go_sem, ltr]
    · have e' : ¬ c = 98 := by intro e; subst e; cases k
      simp only [go_sem, iter_eq, b2, hz]
      refine condL_bool (fun k => ?_) (fun k => ?_)
      · have e'' : c = 99 := by have := eq_of_beq k; omega
        subst e''
        simp only [go_sem, ltr]
      · have e'' : ¬ c = 99 := by intro e; subst e; cases k
        simp only [go_sem, iter_eq, ltr, e, e', e'']
theorem r48 (a b c : Int) : run EE 48 [.int .i64 a, .int .i64 b, .int .i64 c] [] = some (.bool (decide (b ≤ a) && decide (a ≤ c)), []) := by
  rw [run_eq EE 48 _ _ Try.func48 (by decide +kernel) rfl (show 3 ≤ _ by decide)]
  dsimp only [Try.f48]
  simp only [go_sem]
  refine guardL_bool (fun k => ?_) (fun k => ?_) <;> simp only [go_sem, k, ge_iff_le, Bool.true_and, Bool.false_and] at k ⊢ <;> simp only [go_sem, k, Bool.true_and, Bool.false_and]
theorem r42 (a b c : Int) : run EE 42 [.int .i64 a, .int .i64 b, .int .i64 c] [] = some (.bool (decide (b ≤ a) && decide (a ≤ c)), []) := by
  rw [run_eq EE 42 _ _ Try.func42 (by decide +kernel) rfl (show 3 ≤ _ by decide)]
  dsimp only [Try.f42]
  simp only [go_sem]
  refine guardL_bool (fun k => ?_) (fun k => ?_) <;> simp only [go_sem, k, ge_iff_le, Bool.true_and, Bool.false_and] at k ⊢ <;> simp only [go_sem, k, Bool.true_and, Bool.false_and]
end Go.Ev
namespace Go.Ev
open Go Go.Proofs
set_option maxRecDepth 10000
set_option linter.unusedVariables false
set_option linter.unusedSimpArgs false

theorem r46 (q n : Int) (a : Nat) (os : List (Nat → Option Ob)) (ho : os.length ≠ 0) (hob : obIn a 0 os = some (.box [.int .i64 n])) (h0 : 0 ≤ n) (h1 : n ≤ 1048576) : run EE 46 [.int .i64 q, .ptr 0 a 0] os = some (.bool (!(decide (0 ≤ q) && decide (q ≤ n - 1))), os) := by
  have w := wrap_in (n := n - 1) (by omega) (by omega)
  have f := r42 q 0 (n - 1)
  have ho' : ¬ 0 = os.length := fun e => ho e.symm
  rw [run_eq EE 46 _ _ Try.func46 (by decide +kernel) rfl (show 2 ≤ _ by decide)]
  dsimp only [Try.f46]
  simp only [go_sem, ho', hob, w, f]
theorem r44 (row : List Int) (hl : row.length ≤ 1048576) (n : Int) (a : Nat) (os : List (Nat → Option Ob)) (ho : os.length ≠ 0) (hob : obIn a 0 os = some (.box [.int .i64 n])) (h0 : 0 ≤ n) (h1 : n ≤ 1048576) : run EE 44 [IL row, .ptr 0 a 0] os = some (.bool (!rowOk n row), os) := by
  have f := cf45_1 row (by omega) (fun q => !(decide (0 ≤ q) && decide (q ≤ n - 1))) 46 a (n0 :: os) (by simp) (fun x _ b0 b1 => r46 x n a _ (by simp) (by rw [obIn_cons (by simp), obIn_cons (by simp), obIn_cons ho]; exact hob) h0 h1)
  rw [any_not] at f
  rw [run_eq EE 44 _ _ Try.func44 (by decide +kernel) rfl (show 2 ≤ _ by decide)]
  dsimp only [Try.f44]
  unfold rowOk
  cases k : ((row.length : Int) == 3)
  · simp only [go_sem, bne, k, Bool.not_false, Bool.false_and]
  · simp only [go_sem, bne, k, f, Bool.not_true, Bool.not_false, Bool.true_and]
theorem r22 (d : Dfa) (h1 : d.accept.length ≤ 1048576) (h2 : d.next.length ≤ 1048576) (h3 : ∀ r ∈ d.next, r.length ≤ 1048576) : run EE 22 [d.enc] [] = some (.bool (validD d), []) := by
  have wi := r42 d.accept.length 1 40
  rw [run_eq EE 22 _ _ Try.func22 (by decide +kernel) rfl (show 1 ≤ _ by decide)]
  dsimp only [Try.f22]
  unfold validD
  cases k1 : (decide (1 ≤ (d.accept.length : Int)) && decide ((d.accept.length : Int) ≤ 40))
  · rw [k1] at wi
    simp only [go_sem, wi, Bool.not_false, Bool.false_and]
  rw [k1] at wi
  cases k2 : ((d.next.length : Int) == d.accept.length)
  · simp only [go_sem, wi, bne, k2, Bool.not_true, Bool.not_false, Bool.true_and, Bool.false_and]
  have f := fun (b : Nat → Option Ob) (hb : b 3 = some (.box [.int .i64 (d.accept.length : Int)])) => cf43_1 d.next (by omega) (fun row => !rowOk d.accept.length row) 44 3 [b] (by simp) (fun x hx b0 b1 => r44 x (h3 x hx) d.accept.length 3 _ (by simp) hb (by omega) (by omega))
  simp only [any_not] at f
  simp only [go_sem, wi, bne, k2, Bool.not_true, Bool.not_false, Bool.true_and]
  rw [f _ rfl]
  simp only [go_sem, Bool.not_not]
end Go.Ev
namespace Go.Ev
open Go Go.Proofs
set_option maxRecDepth 10000
set_option linter.unusedVariables false
set_option linter.unusedSimpArgs false

theorem r25 (d : Dfa) (h1 : d.accept.length ≤ 1048576) (h2 : d.next.length ≤ 1048576) (h3 : ∀ r ∈ d.next, r.length ≤ 1048576) : run EE 25 [d.enc] [] = some (.bool (validD d), []) := by
  have wi := r48 d.accept.length 1 40
  rw [run_eq EE 25 _ _ Try.func25 (by decide +kernel) rfl (show 1 ≤ _ by decide)]
  dsimp only [Try.f25]
  unfold validD
  cases k1 : (decide (1 ≤ (d.accept.length : Int)) && decide ((d.accept.length : Int) ≤ 40))
  · rw [k1] at wi
    simp only [go_sem, wi, Bool.not_false, Bool.false_and]
  rw [k1] at wi
  cases k2 : ((d.next.length : Int) == d.accept.length)
  · simp only [go_sem, wi, bne, k2, Bool.not_true, Bool.not_false, Bool.true_and, Bool.false_and]
  simp only [go_sem, wi, bne, k2, Bool.not_true, Bool.not_false, Bool.true_and]
  have hn : d.next.length = d.accept.length := by have := eq_of_beq k2; omega
  have hpos : 1 ≤ d.accept.length := by
    have := (Bool.and_eq_true_iff.1 k1).1
    have := of_decide_eq_true this
    omega
  have w0 : IntKind.i64.wrap ((d.accept.length : Int) - 1) = (d.accept.length : Int) - 1 := wrap_in (by omega) (by omega)
  refine iter_inv (fun i : Nat => i ≤ d.next.length) (fun i => { t := upd (upd (upd e0 4 (.int .i64 i)) 3 (.int .i64 d.accept.length)) 1 (.ptr 0 1 0), b := upd n0 1 (some (Ob.box [.slc false 1 (d.accept.map B), .slc false 1 (d.next.map IL)])), o := [], r := #[ResultVar.tmp 2], f := 25, n := 53 }) (fun i => some (.bool ((d.next.drop i).all (rowOk d.accept.length)), [])) (fun i => d.next.length - i) ?_ 0 (Nat.zero_le _)
  intro i hi ih
  by_cases h : i < d.next.length
  rotate_left
  · have k1 : ¬ (i : Int) < d.accept.length := by omega
    rw [List.drop_eq_nil_of_le (by omega)]
    simp only [go_sem, k1, List.all_nil]
  have k1' : (i : Int) < d.accept.length := by omega
  have k1'' : (i : Int) < d.next.length := by omega
  have w := wrap_nat (n := i) (by omega)
  have hr := h3 d.next[i] (List.getElem_mem h)
  rw [List.drop_eq_getElem_cons h, List.all_cons]
  have ihn := ih (i + 1) (by omega) (by omega)
  clear ih
  generalize hrow : d.next[i] = row at hr ⊢
  have hget : ∀ dd : V, (d.next.map IL).getD i dd = IL row := fun dd => by rw [getD_map h, hrow]
  unfold rowOk
  cases k3 : ((row.length : Int) == 3)
  · simp only [go_sem, k1', k1'', hget, bne, k3, Bool.not_false, Bool.false_and]
  simp only [go_sem, k1', k1'', hget, bne, k3, Bool.not_true, Bool.true_and]
  refine iter_inv (fun j : Nat => j ≤ row.length) (fun j => { t := upd (upd (upd (upd e0 5 (.int .i64 j)) 4 (.int .i64 i)) 3 (.int .i64 d.accept.length)) 1 (.ptr 0 1 0), b := upd n0 1 (some (Ob.box [.slc false 1 (d.accept.map B), .slc false 1 (d.next.map IL)])), o := [], r := #[ResultVar.tmp 2], f := 25, n := 53 }) (fun j => some (.bool ((row.drop j).all (fun q => decide (0 ≤ q) && decide (q ≤ (d.accept.length : Int) - 1)) && (d.next.drop (i + 1)).all (rowOk d.accept.length)), [])) (fun j => row.length - j) ?_ 0 (Nat.zero_le _)
  intro j hj ih2
  by_cases hjl : j < row.length
  · have j1 : (j : Int) < row.length := by omega
    have wj := wrap_nat (n := j) (by omega)
    rw [List.drop_eq_getElem_cons hjl, List.all_cons]
    have f := r48 row[j] 0 ((d.accept.length : Int) - 1)
    generalize hq : row[j] = q at f ⊢
    have hget2 : ∀ dd : V, (row.map I).getD j dd = I q := fun dd => by rw [getD_map hjl, hq]
    cases c : (decide (0 ≤ q) && decide (q ≤ (d.accept.length : Int) - 1))
    · rw [c] at f
      simp only [go_sem, k1'', hget, hget2, j1, w0, f, Bool.not_false, Bool.false_and]
    · rw [c] at f
      simp only [go_sem, k1'', hget, hget2, j1, w0, wj, f, Bool.not_true, Bool.true_and]
      exact ih2 (j + 1) (by omega) (by omega)
  · have j1 : ¬ (j : Int) < row.length := by omega
    rw [List.drop_eq_nil_of_le (by omega), List.all_nil, Bool.true_and]
    simp only [go_sem, k1', k1'', hget, j1, w]
    exact ihn
theorem r52 (l : List Int) (hl : l.length ≤ 1048576) (n : Int) : run EE 52 [.slc false 1 (l.map I), .int .i64 n] [] = some (.int .i64 (posP (fun x => x == n) l 0), []) := by
  rw [run_eq EE 52 _ _ Try.func52 (by decide +kernel) rfl (show 2 ≤ _ by decide)]
  dsimp only [Try.f52]
  simp only [go_sem]
  refine iter_inv (fun i : Nat => i ≤ l.length) (fun i => { t := upd (upd (upd e0 5 (.int .i64 i)) 1 (.int .i64 n)) 0 (.slc false 1 (l.map I)), b := n0, o := [], r := #[ResultVar.tmp 4], f := 52, n := 19 }) (fun i => some (.int .i64 (posP (fun x => x == n) (l.drop i) i), [])) (fun i => l.length - i) ?_ 0 (Nat.zero_le _)
  intro i hi ih
  by_cases h : i < l.length
  · have h1 : (i : Int) < l.length := by omega
    have w := wrap_nat (n := i) (by omega)
    rw [List.drop_eq_getElem_cons h, posP]
    cases c : (l[i] == n)
    · simp only [go_sem, h1, w, getD_map h, c, Bool.false_eq_true, if_false]
      exact ih (i + 1) (by omega) (by omega)
    · simp only [go_sem, h1, w, getD_map h, c, if_true]
  · have h1 : ¬ (i : Int) < l.length := by omega
    rw [List.drop_eq_nil_of_le (by omega)]
    simp only [go_sem, h1, posP]
end Go.Ev
namespace Go.Ev
open Go Go.Proofs
set_option maxRecDepth 10000
set_option linter.unusedVariables false
set_option linter.unusedSimpArgs false

theorem r59 (d : DN) (ho : d.ok) (c : List Nat) (hc : c.length = d.accept.length) (p q : Nat) (hp : p < c.length) (hq : q < c.length) (hn : c.length ≤ 1048576) : run EE 59 [d.enc, .slc false 1 (c.map IN), .int .i64 p, .int .i64 q] [] = some (.bool (sameC d c p q), []) := by
  have p1 : (p : Int) < c.length := by omega
  have q1 : (q : Int) < c.length := by omega
  have p2 : (p : Int) < d.next.length := by rw [ho.1]; omega
  have q2 : (q : Int) < d.next.length := by rw [ho.1]; omega
  have p3 : p < d.next.length := by rw [ho.1]; omega
  have q3 : q < d.next.length := by rw [ho.1]; omega
  obtain ⟨a1, a2, a3⟩ := DN.nx_lt ho (q := p) (by omega)
  obtain ⟨b1, b2, b3⟩ := DN.nx_lt ho (q := q) (by omega)
  rw [← hc] at a1 a2 a3 b1 b2 b3
  have a1' : ((d.nx p).1 : Int) < c.length := by omega
  have a2' : ((d.nx p).2.1 : Int) < c.length := by omega
  have a3' : ((d.nx p).2.2 : Int) < c.length := by omega
  have b1' : ((d.nx q).1 : Int) < c.length := by omega
  have b2' : ((d.nx q).2.1 : Int) < c.length := by omega
  have b3' : ((d.nx q).2.2 : Int) < c.length := by omega
  rw [run_eq EE 59 _ _ Try.func59 (by decide +kernel) rfl (show 4 ≤ _ by decide)]
  dsimp only [Try.f59]
  simp only [go_sem]
  rw [q_drs]
  rotate_left
  · kernel_rfl
  simp only [go_sem, p1, q1, getD_IN hp, getD_IN hq, nat_beq]
  unfold sameC
  generalize (cl c p == cl c q) = s0
  simp only [iter_eq, go_sem]
  rw [q_drs]
  rotate_left
  · kernel_rfl
  have step : ∀ (x y : Nat) (s0 : Bool), V.ite s0 (.bool s0) (.bool false) = .bool s0 := by intro _ _ s0; cases s0 <;> rfl
  cases s0
  · simp only [go_sem, iter_eq, Bool.false_and]
    rw [q_drs]
    rotate_left
    · kernel_rfl
    simp only [go_sem, iter_eq]
    rw [q_drs]
    rotate_left
    · kernel_rfl
    simp only [go_sem, iter_eq]
  simp only [go_sem, iter_eq, p2, q2, getD_NT p3, getD_NT q3, a1', b1', getD_IN a1, getD_IN b1, nat_beq, Bool.true_and]
  rw [q_drs]
  rotate_left
  · kernel_rfl
  cases k1 : (cl c (d.nx p).1 == cl c (d.nx q).1)
  · simp only [go_sem, iter_eq, Bool.false_and]
    rw [q_drs]
    rotate_left
    · kernel_rfl
    simp only [go_sem, iter_eq]
  simp only [go_sem, iter_eq, p2, q2, getD_NT p3, getD_NT q3, a2', b2', getD_IN a2, getD_IN b2, nat_beq, Bool.true_and]
  rw [q_drs]
  rotate_left
  · kernel_rfl
  cases k2 : (cl c (d.nx p).2.1 == cl c (d.nx q).2.1)
  · simp only [go_sem, iter_eq, Bool.false_and]
  simp only [go_sem, iter_eq, p2, q2, getD_NT p3, getD_NT q3, a3', b3', getD_IN a3, getD_IN b3, nat_beq, Bool.true_and]
end Go.Ev
namespace Go.Ev
open Go Go.Proofs
set_option maxRecDepth 10000
set_option linter.unusedVariables false
set_option linter.unusedSimpArgs false

theorem r51 (d : DN) (ho : d.ok) (hn : d.accept.length ≤ 1048576) : run EE 51 [d.enc] [] = some (.slc false 1 ((rounds d (d.accept.length + 1) (class0 d)).map IN), []) := by
  have h8 : (d.accept.length : Int) * 8 ≤ 140737488355328 := by omega
  rw [run_eq EE 51 _ _ Try.func51 (by decide +kernel) rfl (show 1 ≤ _ by decide)]
  dsimp only [Try.f51]
  simp only [go_sem, h8]
  refine (iter_inv (fun i : Nat => i ≤ d.accept.length) (fun i => { t := upd (upd (upd (upd e0 5 (.int .i64 i)) 4 (.aref 0 14 d.accept.length)) 3 (.int .i64 d.accept.length)) 1 (.ptr 0 1 0), b := upd (upd n0 14 (some (Ob.arr false 1 (fill C0 d.accept (.int .i64 0) i)))) 1 (some (Ob.box [.slc false 1 (d.accept.map B), .slc false 1 (d.next.map NT)])), o := [], r := #[ResultVar.tmp 2], f := 51, n := 60 }) (fun _ => some (.slc false 1 ((rounds d (d.accept.length + 1) (class0 d)).map IN), [])) (fun i => d.accept.length - i) ?_ 0 (Nat.zero_le _))
  intro i hi ih
  by_cases h : i < d.accept.length
  · have h1 : (i : Int) < d.accept.length := by omega
    have w := wrap_nat (n := i) (by omega)
    have ihn := ih (i + 1) (by omega) (by omega)
    cases hb : d.accept[i]
    · rw [← fill_same _ _ _ h (by rw [hb]; rfl)] at ihn
      simp only [go_sem, h1, w, getD_map h, hb]
      exact ihn
    · rw [← fill_set _ _ _ h (.int .i64 1) (by rw [hb]; rfl)] at ihn
      have hl := fill_len C0 d.accept (.int .i64 0) hi
      simp only [go_sem, h1, w, getD_map h, hb, hl, h]
      exact ihn
  have h1 : ¬ (i : Int) < d.accept.length := by omega
  obtain rfl : i = d.accept.length := by omega
  clear ih
  have hl0 := fill_len C0 d.accept (.int .i64 0) (Nat.le_refl _)
  simp only [go_sem, h1, hl0, fill_all]
  rw [class0_C0]
  have hc0 : (class0 d).length = d.accept.length := by simp [class0]
  refine (iter_inv (fun x : Nat × List Nat => x.1 ≤ d.accept.length + 1 ∧ x.2.length = d.accept.length) (fun x => { t := upd (upd (upd (upd e0 6 (.int .i64 x.1)) 4 (.slc false 1 (x.2.map IN))) 3 (.int .i64 d.accept.length)) 1 (.ptr 0 1 0), b := upd n0 1 (some (Ob.box [.slc false 1 (d.accept.map B), .slc false 1 (d.next.map NT)])), o := [], r := #[ResultVar.tmp 2], f := 51, n := 60 }) (fun x => some (.slc false 1 ((rounds d (d.accept.length + 1 - x.1) x.2).map IN), [])) (fun x => d.accept.length + 1 - x.1) ?_ (0, class0 d) ⟨Nat.zero_le _, hc0⟩)
  rintro ⟨r, c⟩ ⟨hr, hc⟩ ih
  dsimp only at hr hc ⊢
  by_cases hrl : r ≤ d.accept.length
  rotate_left
  · have k : ¬ (r : Int) ≤ d.accept.length := by omega
    have e : d.accept.length + 1 - r = 0 := by omega
    rw [e]
    simp only [go_sem, k, rounds]
  have k : (r : Int) ≤ d.accept.length := by omega
  have wr := wrap_nat (n := r) (by omega)
  have ihr := ih (r + 1, refine d c) ⟨by show r + 1 ≤ _; omega, refine_len d c⟩ (by show d.accept.length + 1 - (r + 1) < d.accept.length + 1 - r; omega)
  clear ih
  have e : d.accept.length + 1 - r = (d.accept.length + 1 - (r + 1)) + 1 := by omega
  rw [e, rounds]
  generalize (some (V.slc false 1 ((rounds d (d.accept.length + 1 - (r + 1)) (refine d c)).map IN), ([] : List (Nat → Option Ob)))) = RES at ihr ⊢
  have hrl0 : (List.range d.accept.length).length = d.accept.length := List.length_range
  simp only [go_sem, k, h8]
  have f0 : List.replicate d.accept.length (V.int .i64 0) = fill (LV d c) (List.range d.accept.length) (.int .i64 0) 0 := by rw [fill_zero, hrl0]
  rw [f0]
  refine iter_inv (fun q : Nat => q ≤ d.accept.length) (fun q => { t := upd (upd (upd (upd (upd (upd e0 8 (.int .i64 q)) 7 (.aref 0 34 d.accept.length)) 6 (.int .i64 r)) 4 (.slc false 1 (c.map IN))) 3 (.int .i64 d.accept.length)) 1 (.ptr 0 1 0), b := upd (upd n0 34 (some (Ob.arr false 1 (fill (LV d c) (List.range d.accept.length) (.int .i64 0) q)))) 1 (some (Ob.box [.slc false 1 (d.accept.map B), .slc false 1 (d.next.map NT)])), o := [], r := #[ResultVar.tmp 2], f := 51, n := 60 }) (fun _ => RES) (fun q => d.accept.length - q) ?_ 0 (Nat.zero_le _)
  intro q hq ihq
  have hfl := fill_len (LV d c) (List.range d.accept.length) (.int .i64 0) (i := q) (by rw [hrl0]; exact hq)
  rw [hrl0] at hfl
  by_cases hql : q < d.accept.length
  rotate_left
  · have k' : ¬ (q : Int) < d.accept.length := by omega
    obtain rfl : q = d.accept.length := by omega
    have fa := fill_all (LV d c) (List.range d.accept.length) (.int .i64 0)
    rw [hrl0, refine_LV] at fa
    simp only [go_sem, k', hfl, fa, wr, refine_len]
    exact ihr
  have k' : (q : Int) < d.accept.length := by omega
  have wq := wrap_nat (n := q) (by omega)
  have ihn := ihq (q + 1) (by omega) (by omega)
  clear ihq
  have hset : ∀ v, v = LV d c q → (fill (LV d c) (List.range d.accept.length) (.int .i64 0) q).set q v = fill (LV d c) (List.range d.accept.length) (.int .i64 0) (q + 1) := fun v hv => fill_set (LV d c) (List.range d.accept.length) (.int .i64 0) (by rw [hrl0]; exact hql) v (by rw [hv]; simp)
  simp only [go_sem, k', hfl, hql]
  refine iter_inv (fun p : Nat => p ≤ q ∧ firstS (fun p => sameC d c p q) q (q - p) = lead d c q) (fun p => { t := upd (upd (upd (upd (upd (upd (upd e0 9 (.int .i64 p)) 8 (.int .i64 q)) 7 (.aref 0 34 d.accept.length)) 6 (.int .i64 r)) 4 (.slc false 1 (c.map IN))) 3 (.int .i64 d.accept.length)) 1 (.ptr 0 1 0), b := upd (upd n0 34 (some (Ob.arr false 1 ((fill (LV d c) (List.range d.accept.length) (.int .i64 0) q).set q (.int .i64 q))))) 1 (some (Ob.box [.slc false 1 (d.accept.map B), .slc false 1 (d.next.map NT)])), o := [], r := #[ResultVar.tmp 2], f := 51, n := 60 }) (fun _ => RES) (fun p => q - p) ?_ 0 ⟨Nat.zero_le _, rfl⟩
  rintro p ⟨hp, hf⟩ ihp
  by_cases hpl : p < q
  rotate_left
  · have k2 : ¬ (p : Int) < q := by omega
    obtain rfl : p = q := by omega
    rw [Nat.sub_self, firstS_zero] at hf
    rw [hset _ (by unfold LV; rw [← hf]; rfl)]
    simp only [go_sem, k2, wq]
    exact ihn
  have k2 : (p : Int) < q := by omega
  have wp := wrap_nat (n := p) (by omega)
  have sm := r59 d ho c hc p q (by omega) (by omega) (by omega)
  have e2 : q - p = (q - (p + 1)) + 1 := by omega
  rw [e2, firstS_succ] at hf
  have e3 : q - (q - (p + 1) + 1) = p := by omega
  rw [e3] at hf
  simp only [DN.enc] at sm
  cases hs : sameC d c p q
  · rw [hs] at sm hf
    simp only [go_sem, k2, sm, wp]
    exact ihp (p + 1) ⟨by omega, by simpa using hf⟩ (by omega)
  · rw [hs, if_pos rfl] at hf
    rw [hs] at sm
    have hfl2 : q < ((fill (LV d c) (List.range d.accept.length) (.int .i64 0) q).set q (.int .i64 q)).length := by rw [List.length_set, hfl]; exact hql
    simp only [go_sem, k', k2, sm, hfl2, hfl, hql, List.set_set, wq]
    rw [hset (.int .i64 p) (by unfold LV; rw [← hf]; rfl)]
    exact ihn
end Go.Ev
namespace Go.Ev
open Go Go.Proofs
set_option maxRecDepth 10000
set_option maxHeartbeats 4000000
set_option linter.unusedVariables false
set_option linter.unusedSimpArgs false

theorem uqL_c (s : St) (objs : _) (l : List V) : canonV s objs (uqL l) = some (uqL l) := by
  cases l <;> rfl
attribute [go_sem high] uqL_c
theorem uqL_map2 {α β : Type} (f : β → V) (g : α → β) {l : List α} (h : l ≠ []) : uqL ((l.map g).map f) = .uq 1 ((l.map g).map f) := uqL_map f (by simpa using h)
theorem r28 (d : DN) (ho : d.ok) (hn : d.accept.length ≤ 1048576) (hn1 : 1 ≤ d.accept.length) : run EE 28 [d.enc] [] = some ((minS d).encD, []) := by
  have fc := r51 d ho hn
  have hcl := rounds_len d d.accept.length
  have hlt := fun (q : Nat) (h : q < d.accept.length) => cl_lt (d := d) (k := d.accept.length) (q := q) h
  unfold minS
  generalize rounds d (d.accept.length + 1) (class0 d) = c at fc hcl hlt ⊢
  have h0 := hlt 0 (by omega)
  have z1 : (0 : Int) < c.length := by omega
  have z2 : 0 < c.length := by omega
  simp only [DN.enc] at fc
  generalize hRES : (some ((ofList d c (listC d c (cl c 0))).encD, ([] : List (Nat → Option Ob)))) = RES
  have hL : bfsL (sucC d c) d.accept.length [cl c 0] 0 = listC d c (cl c 0) := rfl
  have hLp : 1 ≤ (listC d c (cl c 0)).length := by
    rw [← hL]
    exact (bfs_pre (sucC d c) d.accept.length [cl c 0] 0).length_le
  generalize listC d c (cl c 0) = L at hRES hL hLp
  have hLne : L ≠ [] := fun e => by rw [e] at hLp; exact absurd hLp (by decide)
  have hgz : ∀ v : V, (c.map IN).getD 0 v = IN (cl c 0) := fun v => getD_IN z2 v
  rw [run_eq EE 28 _ _ Try.func28 (by decide +kernel) rfl (show 1 ≤ _ by decide)]
  dsimp only [Try.f28]
  simp only [go_sem, fc, z1, hgz]
  refine (iter_inv (fun x : Nat × List Nat => x.1 ≤ x.2.length ∧ bfsL (sucC d c) (d.accept.length - x.1) x.2 x.1 = L ∧ x.2.Nodup ∧ ∀ y ∈ x.2, y < d.accept.length) (fun x => { t := upd (upd (upd (upd (upd (upd e0 6 (.int .i64 x.1)) 5 (.ptr 0 5 0)) 4 (.slc true 1 (x.2.map IN))) 3 (.slc false 1 (c.map IN))) 2 (.ptr 0 2 0)) 1 (.ptr 0 1 0), b := upd (upd (upd n0 5 (some (Ob.box [uqL (((x.2.take x.1).map (accN d)).map B), uqL (((x.2.take x.1).map fun q => rowOf L (sucC d c q)).map NU)]))) 2 (some (Ob.box [.slc true 1 [], .slc true 1 []]))) 1 (some (Ob.box [.slc false 1 (d.accept.map B), .slc false 1 (d.next.map NT)])), o := [], r := #[ResultVar.cell 2 27], f := 28, n := 76 }) (fun _ => RES) (fun x => d.accept.length - x.1) ?_ (0, [cl c 0]) ⟨Nat.zero_le _, hL, by simp, by intro y hy; rw [List.mem_singleton.1 hy]; exact h0⟩)
  rintro ⟨i, l⟩ ⟨hi, hb, hnd, hlb⟩ ih
  dsimp only at hi hb hnd hlb ⊢
  have hln := nodup_le hnd hlb
  by_cases h : i < l.length
  rotate_left
  · have k1 : ¬ (i : Int) < l.length := by omega
    rw [bfs_done h] at hb
    subst hb
    have e : l.take i = l := List.take_of_length_le (by omega)
    rw [e, ← hRES, uqL_map2 _ _ hLne, uqL_map2 _ _ hLne]
    simp only [go_sem, k1, DN.encD, ofList]
  have k1 : (i : Int) < l.length := by omega
  have hx := hlb l[i] (List.getElem_mem h)
  have hgl : ∀ v : V, (l.map IN).getD i v = IN l[i] := fun v => getD_map h v
  obtain ⟨t0, t1, t2⟩ := DN.nx_lt ho hx
  have hb2 : bfsL (sucC d c) (d.accept.length - (i + 1)) (ins3 l (sucC d c l[i])) (i + 1) = L := by
    have e : d.accept.length - i = (d.accept.length - (i + 1)) + 1 := by omega
    rw [e, bfs_step h] at hb
    exact hb
  have hp3 := bfs_pre (sucC d c) (d.accept.length - (i + 1)) (ins3 l (sucC d c l[i])) (i + 1)
  rw [hb2] at hp3
  have ihn := ih (i + 1, ins3 l (sucC d c l[i])) ⟨by have := (ins3_pre l (sucC d c l[i])).length_le; show i + 1 ≤ (ins3 l (sucC d c l[i])).length; omega, hb2, ins3_nodup hnd, fun y hy => by
    rcases mem_ins3.1 hy with hy | hy | hy | hy
    · exact hlb y hy
    · rw [hy]; exact hlt _ t0
    · rw [hy]; exact hlt _ t1
    · rw [hy]; exact hlt _ t2⟩ (by show d.accept.length - (i + 1) < d.accept.length - i; omega)
  dsimp only at ihn
  have ht1 : (ins3 l (sucC d c l[i])).take (i + 1) ≠ [] := by rw [take_pre (ins3_pre l (sucC d c l[i])) h]; exact List.append_ne_nil_of_right_ne_nil _ (List.cons_ne_nil _ _)
  rw [uqL_map2 _ _ ht1, uqL_map2 _ _ ht1, take_pre (ins3_pre l (sucC d c l[i])) h, List.map_append, List.map_append, List.map_append, List.map_append] at ihn
  have hlen3 : (ins3 l (sucC d c l[i])).length ≤ 1048576 := by
    have := nodup_le (ins3_nodup (t := sucC d c l[i]) hnd) (n := d.accept.length) (fun y hy => by
      rcases mem_ins3.1 hy with hy | hy | hy | hy
      · exact hlb y hy
      · rw [hy]; exact hlt _ t0
      · rw [hy]; exact hlt _ t1
      · rw [hy]; exact hlt _ t2)
    omega
  clear ih
  have wi := wrap_nat (n := i) (by omega)
  have x1 : (l[i] : Int) < d.next.length := by rw [ho.1]; omega
  have x2 : l[i] < d.next.length := by rw [ho.1]; omega
  have x3 : (l[i] : Int) < d.accept.length := by omega
  generalize hq : l[i] = q at *
  have hs : sucC d c q = (cl c (d.nx q).1, cl c (d.nx q).2.1, cl c (d.nx q).2.2) := rfl
  rw [← hcl] at t0 t1 t2
  have t0' : ((d.nx q).1 : Int) < c.length := by omega
  have t1' : ((d.nx q).2.1 : Int) < c.length := by omega
  have t2' : ((d.nx q).2.2 : Int) < c.length := by omega
  have g0 := getD_IN t0
  have g1 := getD_IN t1
  have g2 := getD_IN t2
  have hgx := getD_NT x2
  rw [hs] at hp3 hlen3 ihn
  generalize cl c (d.nx q).1 = a0 at *
  generalize cl c (d.nx q).2.1 = a1 at *
  generalize cl c (d.nx q).2.2 = a2 at *
  simp only [go_sem, k1]
  refine iter_inv (fun k : Nat => k ≤ 3) (fun k => { t := upd (upd (upd (upd (upd (upd (upd (upd e0 8 (.int .i64 k)) 7 (uqL ((([a0, a1, a2].take k).map L.idxOf).map IN))) 6 (.int .i64 i)) 5 (.ptr 0 5 0)) 4 (.slc true 1 ((([a0, a1, a2].take k).foldl ins l).map IN))) 3 (.slc false 1 (c.map IN))) 2 (.ptr 0 2 0)) 1 (.ptr 0 1 0), b := upd (upd (upd n0 5 (some (Ob.box [uqL (((l.take i).map (accN d)).map B), uqL (((l.take i).map fun q => rowOf L (sucC d c q)).map NU)]))) 2 (some (Ob.box [.slc true 1 [], .slc true 1 []]))) 1 (some (Ob.box [.slc false 1 (d.accept.map B), .slc false 1 (d.next.map NT)])), o := [], r := #[ResultVar.cell 2 27], f := 28, n := 76 }) (fun _ => RES) (fun k => 3 - k) ?_ 0 (Nat.zero_le _)
  intro k hk ihk
  by_cases hk3 : k = 3
  · subst hk3
    have e3 : ([a0, a1, a2].take 3).foldl ins l = ins3 l (a0, a1, a2) := rfl
    have e4 : uqL ((([a0, a1, a2].take 3).map L.idxOf).map IN) = .uq 1 [.int .i64 (L.idxOf a0), .int .i64 (L.idxOf a1), .int .i64 (L.idxOf a2)] := rfl
    rw [e3, e4]
    have hpl := ins3_pre l (a0, a1, a2)
    have hil : i < (ins3 l (a0, a1, a2)).length := Nat.lt_of_lt_of_le h hpl.length_le
    have hil' : (i : Int) < (ins3 l (a0, a1, a2)).length := by omega
    have hg3 : ∀ v : V, ((ins3 l (a0, a1, a2)).map IN).getD i v = IN q := fun v => by
      rw [getD_map hil]
      refine congrArg IN ?_
      obtain ⟨m, hm⟩ := hpl
      have : (ins3 l (a0, a1, a2))[i]? = some q := by rw [← hm, List.getElem?_append_left h, List.getElem?_eq_getElem h, hq]
      rw [List.getElem?_eq_getElem hil] at this
      exact Option.some.inj this
    have hgb := getD_B (l := d.accept) hx
    have m1 : (min i l.length + 1) * 1 ≤ 140737488355328 := by omega
    have m2 : (min i l.length + 1) * 24 ≤ 140737488355328 := by omega
    simp only [go_sem]
    rw [q_drawn]
    rotate_left
    · kernel_rfl
    have hrow : List.map NU (List.map (fun q => rowOf L (sucC d c q)) [q]) = [V.uq 1 [.int .i64 (L.idxOf a0), .int .i64 (L.idxOf a1), .int .i64 (L.idxOf a2)]] := by
      simp only [List.map_cons, List.map_nil, hs, rowOf, NU]
    rw [hrow] at ihn
    by_cases hi0 : i = 0
    · have ht0 : l.take i = [] := by rw [hi0]; rfl
      have ez : uqL ((([] : List Nat).map (accN d)).map B) = .slc true 1 [] := rfl
      have ez2 : uqL ((([] : List Nat).map fun q => rowOf L (sucC d c q)).map NU) = .slc true 1 [] := rfl
      have m0 : ((0 : Nat) + 1) * 1 ≤ 140737488355328 := by decide
      have m3 : ((0 : Nat) + 1) * 24 ≤ 140737488355328 := by decide
      rw [ht0] at ihn ⊢
      rw [ez, ez2]
      simp only [List.map_nil, List.nil_append] at ihn
      simp only [go_sem, still, hil', hg3, x3, hgb, m1, m2, m0, m3, eq_self, wi]
      exact ihn
    · have hti : l.take i ≠ [] := fun e => by
        have := congrArg List.length e
        rw [List.length_take, List.length_nil] at this
        omega
      rw [uqL_map2 _ _ hti, uqL_map2 _ _ hti]
      simp only [go_sem, still, hil', hg3, x3, hgb, m1, m2, eq_self, wi]
      exact ihn
  by_cases hk0 : k = 0
  · subst hk0
    have hpre : ins (([a0, a1, a2].take 0).foldl ins l) a0 <+: L := ((ins_pre _ _).trans ((ins_pre _ _).trans hp3))
    have hlen : (([a0, a1, a2].take 0).foldl ins l).length ≤ 1048576 := by
      have h1 := (ins_pre (([a0, a1, a2].take 0).foldl ins l) a0).length_le
      have h2 : (ins (([a0, a1, a2].take 0).foldl ins l) a0).length ≤ (ins3 l (a0, a1, a2)).length := List.IsPrefix.length_le ((ins_pre _ _).trans (ins_pre _ _))
      omega
    have ihn2 := ihk (0 + 1) (by omega) (by omega)
    have en : ([a0, a1, a2].take (0 + 1)).foldl ins l = ins (([a0, a1, a2].take 0).foldl ins l) a0 := rfl
    have er : uqL ((([a0, a1, a2].take (0 + 1)).map L.idxOf).map IN) = .uq 1 [.int .i64 (L.idxOf a0)] := rfl
    have er0 : uqL ((([a0, a1, a2].take 0).map L.idxOf).map IN) = .slc true 1 [] := rfl
    rw [er0]
    have hpl : l <+: ([a0, a1, a2].take 0).foldl ins l := List.prefix_refl l
    rw [en, er] at ihn2
    have hik : i < (([a0, a1, a2].take 0).foldl ins l).length := Nat.lt_of_lt_of_le h hpl.length_le
    have hgk : ∀ v : V, ((([a0, a1, a2].take 0).foldl ins l).map IN).getD i v = IN q := fun v => by
      rw [getD_map hik]
      refine congrArg IN ?_
      obtain ⟨m, hm⟩ := hpl
      have : (([a0, a1, a2].take 0).foldl ins l)[i]? = some q := by rw [← hm, List.getElem?_append_left h, List.getElem?_eq_getElem h, hq]
      rw [List.getElem?_eq_getElem hik] at this
      exact Option.some.inj this
    have hik' : (i : Int) < (([a0, a1, a2].take 0).foldl ins l).length := by omega
    have ff := r52 ((([a0, a1, a2].take 0).foldl ins l).map fun n : Nat => (n : Int)) (by rw [List.length_map]; exact hlen) (a0 : Int)
    have fg := r52 ((ins (([a0, a1, a2].take 0).foldl ins l) a0).map fun n : Nat => (n : Int)) (by rw [List.length_map]; have h2 : (ins (([a0, a1, a2].take 0).foldl ins l) a0).length ≤ (ins3 l (a0, a1, a2)).length := List.IsPrefix.length_le ((ins_pre _ _).trans (ins_pre _ _)); omega) (a0 : Int)
    rw [← map_IN] at ff fg
    rw [idxP.1 L hpre] at fg
    have hneg := idxP (l := ([a0, a1, a2].take 0).foldl ins l) (x := a0) |>.2
    generalize ([a0, a1, a2].take 0).foldl ins l = lk at *
    generalize posP (fun y : Int => y == (a0 : Int)) (lk.map fun n : Nat => (n : Int)) 0 = pos at ff hneg
    have c0 : ((0 : Nat) : Int) = 0 := rfl
    have w0 : IntKind.i64.wrap ((0 : Int) + 1) = ((0 + 1 : Nat) : Int) := by decide
    have m0 : (lk.length + 1) * 8 ≤ 140737488355328 := by omega
    have m1 : (0 + 1) * 8 ≤ 140737488355328 := by omega
    by_cases hm : a0 ∈ lk
    · have hp : ¬ ((L.idxOf a0 : Nat) : Int) < 0 := by omega
      have ei : ins lk a0 = lk := if_pos hm
      rw [ei] at fg ihn2
      simp only [go_sem, c0]
      rw [q_drs]
      rotate_left
      · kernel_rfl
      simp only [go_sem, hik', hgk, x1, hgx, t0', g0, fg, hp, m1, w0]
      exact ihn2
    · have hp : pos < 0 := hneg.2 hm
      have ei : ins lk a0 = lk ++ [a0] := if_neg hm
      rw [ei] at fg ihn2
      have ea : (lk ++ [a0]).map IN = lk.map IN ++ [.int .i64 a0] := by rw [List.map_append]; rfl
      rw [ea] at fg ihn2
      simp only [go_sem, c0]
      rw [q_drs]
      rotate_left
      · kernel_rfl
      simp only [go_sem, hik', hgk, x1, hgx, t0', g0, ff, hp, m0, m1, fg, w0]
      exact ihn2
  by_cases hk1 : k = 1
  · subst hk1
    have hpre : ins (([a0, a1, a2].take 1).foldl ins l) a1 <+: L := ((ins_pre _ _).trans hp3)
    have hlen : (([a0, a1, a2].take 1).foldl ins l).length ≤ 1048576 := by
      have h1 := (ins_pre (([a0, a1, a2].take 1).foldl ins l) a1).length_le
      have h2 : (ins (([a0, a1, a2].take 1).foldl ins l) a1).length ≤ (ins3 l (a0, a1, a2)).length := List.IsPrefix.length_le (ins_pre _ _)
      omega
    have ihn2 := ihk (1 + 1) (by omega) (by omega)
    have en : ([a0, a1, a2].take (1 + 1)).foldl ins l = ins (([a0, a1, a2].take 1).foldl ins l) a1 := rfl
    have er : uqL ((([a0, a1, a2].take (1 + 1)).map L.idxOf).map IN) = .uq 1 [.int .i64 (L.idxOf a0), .int .i64 (L.idxOf a1)] := rfl
    have er0 : uqL ((([a0, a1, a2].take 1).map L.idxOf).map IN) = .uq 1 [.int .i64 (L.idxOf a0)] := rfl
    rw [er0]
    have hpl : l <+: ([a0, a1, a2].take 1).foldl ins l := ins_pre l a0
    rw [en, er] at ihn2
    have hik : i < (([a0, a1, a2].take 1).foldl ins l).length := Nat.lt_of_lt_of_le h hpl.length_le
    have hgk : ∀ v : V, ((([a0, a1, a2].take 1).foldl ins l).map IN).getD i v = IN q := fun v => by
      rw [getD_map hik]
      refine congrArg IN ?_
      obtain ⟨m, hm⟩ := hpl
      have : (([a0, a1, a2].take 1).foldl ins l)[i]? = some q := by rw [← hm, List.getElem?_append_left h, List.getElem?_eq_getElem h, hq]
      rw [List.getElem?_eq_getElem hik] at this
      exact Option.some.inj this
    have hik' : (i : Int) < (([a0, a1, a2].take 1).foldl ins l).length := by omega
    have ff := r52 ((([a0, a1, a2].take 1).foldl ins l).map fun n : Nat => (n : Int)) (by rw [List.length_map]; exact hlen) (a1 : Int)
    have fg := r52 ((ins (([a0, a1, a2].take 1).foldl ins l) a1).map fun n : Nat => (n : Int)) (by rw [List.length_map]; have h2 : (ins (([a0, a1, a2].take 1).foldl ins l) a1).length ≤ (ins3 l (a0, a1, a2)).length := List.IsPrefix.length_le (ins_pre _ _); omega) (a1 : Int)
    rw [← map_IN] at ff fg
    rw [idxP.1 L hpre] at fg
    have hneg := idxP (l := ([a0, a1, a2].take 1).foldl ins l) (x := a1) |>.2
    generalize ([a0, a1, a2].take 1).foldl ins l = lk at *
    generalize posP (fun y : Int => y == (a1 : Int)) (lk.map fun n : Nat => (n : Int)) 0 = pos at ff hneg
    have c0 : ((1 : Nat) : Int) = 1 := rfl
    have w0 : IntKind.i64.wrap ((1 : Int) + 1) = ((1 + 1 : Nat) : Int) := by decide
    have m0 : (lk.length + 1) * 8 ≤ 140737488355328 := by omega
    have m1 : (1 + 1) * 8 ≤ 140737488355328 := by omega
    by_cases hm : a1 ∈ lk
    · have hp : ¬ ((L.idxOf a1 : Nat) : Int) < 0 := by omega
      have ei : ins lk a1 = lk := if_pos hm
      rw [ei] at fg ihn2
      simp only [go_sem, c0]
      rw [q_drs]
      rotate_left
      · kernel_rfl
      simp only [go_sem, hik', hgk, x1, hgx, t1', g1, fg, hp, m1, w0]
      exact ihn2
    · have hp : pos < 0 := hneg.2 hm
      have ei : ins lk a1 = lk ++ [a1] := if_neg hm
      rw [ei] at fg ihn2
      have ea : (lk ++ [a1]).map IN = lk.map IN ++ [.int .i64 a1] := by rw [List.map_append]; rfl
      rw [ea] at fg ihn2
      simp only [go_sem, c0]
      rw [q_drs]
      rotate_left
      · kernel_rfl
      simp only [go_sem, hik', hgk, x1, hgx, t1', g1, ff, hp, m0, m1, fg, w0]
      exact ihn2
  by_cases hk2 : k = 2
  · subst hk2
    have hpre : ins (([a0, a1, a2].take 2).foldl ins l) a2 <+: L := hp3
    have hlen : (([a0, a1, a2].take 2).foldl ins l).length ≤ 1048576 := by
      have h1 := (ins_pre (([a0, a1, a2].take 2).foldl ins l) a2).length_le
      have h2 : (ins (([a0, a1, a2].take 2).foldl ins l) a2).length ≤ (ins3 l (a0, a1, a2)).length := List.IsPrefix.length_le (List.prefix_refl _)
      omega
    have ihn2 := ihk (2 + 1) (by omega) (by omega)
    have en : ([a0, a1, a2].take (2 + 1)).foldl ins l = ins (([a0, a1, a2].take 2).foldl ins l) a2 := rfl
    have er : uqL ((([a0, a1, a2].take (2 + 1)).map L.idxOf).map IN) = .uq 1 [.int .i64 (L.idxOf a0), .int .i64 (L.idxOf a1), .int .i64 (L.idxOf a2)] := rfl
    have er0 : uqL ((([a0, a1, a2].take 2).map L.idxOf).map IN) = .uq 1 [.int .i64 (L.idxOf a0), .int .i64 (L.idxOf a1)] := rfl
    rw [er0]
    have hpl : l <+: ([a0, a1, a2].take 2).foldl ins l := (ins_pre l a0).trans (ins_pre _ a1)
    rw [en, er] at ihn2
    have hik : i < (([a0, a1, a2].take 2).foldl ins l).length := Nat.lt_of_lt_of_le h hpl.length_le
    have hgk : ∀ v : V, ((([a0, a1, a2].take 2).foldl ins l).map IN).getD i v = IN q := fun v => by
      rw [getD_map hik]
      refine congrArg IN ?_
      obtain ⟨m, hm⟩ := hpl
      have : (([a0, a1, a2].take 2).foldl ins l)[i]? = some q := by rw [← hm, List.getElem?_append_left h, List.getElem?_eq_getElem h, hq]
      rw [List.getElem?_eq_getElem hik] at this
      exact Option.some.inj this
    have hik' : (i : Int) < (([a0, a1, a2].take 2).foldl ins l).length := by omega
    have ff := r52 ((([a0, a1, a2].take 2).foldl ins l).map fun n : Nat => (n : Int)) (by rw [List.length_map]; exact hlen) (a2 : Int)
    have fg := r52 ((ins (([a0, a1, a2].take 2).foldl ins l) a2).map fun n : Nat => (n : Int)) (by rw [List.length_map]; have h2 : (ins (([a0, a1, a2].take 2).foldl ins l) a2).length ≤ (ins3 l (a0, a1, a2)).length := List.IsPrefix.length_le (List.prefix_refl _); omega) (a2 : Int)
    rw [← map_IN] at ff fg
    rw [idxP.1 L hpre] at fg
    have hneg := idxP (l := ([a0, a1, a2].take 2).foldl ins l) (x := a2) |>.2
    generalize ([a0, a1, a2].take 2).foldl ins l = lk at *
    generalize posP (fun y : Int => y == (a2 : Int)) (lk.map fun n : Nat => (n : Int)) 0 = pos at ff hneg
    have c0 : ((2 : Nat) : Int) = 2 := rfl
    have w0 : IntKind.i64.wrap ((2 : Int) + 1) = ((2 + 1 : Nat) : Int) := by decide
    have m0 : (lk.length + 1) * 8 ≤ 140737488355328 := by omega
    have m1 : (2 + 1) * 8 ≤ 140737488355328 := by omega
    by_cases hm : a2 ∈ lk
    · have hp : ¬ ((L.idxOf a2 : Nat) : Int) < 0 := by omega
      have ei : ins lk a2 = lk := if_pos hm
      rw [ei] at fg ihn2
      simp only [go_sem, c0]
      rw [q_drs]
      rotate_left
      · kernel_rfl
      simp only [go_sem, hik', hgk, x1, hgx, t2', g2, fg, hp, m1, w0]
      exact ihn2
    · have hp : pos < 0 := hneg.2 hm
      have ei : ins lk a2 = lk ++ [a2] := if_neg hm
      rw [ei] at fg ihn2
      have ea : (lk ++ [a2]).map IN = lk.map IN ++ [.int .i64 a2] := by rw [List.map_append]; rfl
      rw [ea] at fg ihn2
      simp only [go_sem, c0]
      rw [q_drs]
      rotate_left
      · kernel_rfl
      simp only [go_sem, hik', hgk, x1, hgx, t2', g2, ff, hp, m0, m1, fg, w0]
      exact ihn2
  omega
end Go.Ev
namespace Go.Ev
open Go Go.Proofs
set_option maxRecDepth 10000
set_option maxHeartbeats 4000000
set_option linter.unusedVariables false
set_option linter.unusedSimpArgs false

theorem eqN (a b : Nat) : eqV Try.prog 3 (IN a) (IN b) = some (decide (a = b)) := by
  show eqV Try.prog 3 (.int .i64 (a : Int)) (.int .i64 (b : Int)) = _
  rw [ev3, nat_beq]
  rfl
theorem eqK (a b : K4) : eqV Try.prog 76 (encK a) (encK b) = some (decide (a = b)) := by
  show eqV Try.prog 76 (.agg [.int .i64 (a.1 : Int), .int .i64 (a.2.1 : Int), .int .i64 (a.2.2.1 : Int), .int .i64 (a.2.2.2 : Int)]) (.agg [.int .i64 (b.1 : Int), .int .i64 (b.2.1 : Int), .int .i64 (b.2.2.1 : Int), .int .i64 (b.2.2.2 : Int)]) = _
  rw [ev76, k4_beq]
theorem r24 (d : DN) (ho : d.ok) (hn : d.accept.length ≤ 1048576) (s : Nat) (hs : s < d.accept.length) : run EE 24 [d.enc, .int .i64 s] [] = some ((quotS d s).encD, []) := by
  have hnl : d.next.length = d.accept.length := ho.1
  have fN := fun q l => findE_mapN (P := Try.prog) (kt := 3) (enc := IN) eqN q l 0
  have pN := fun q l (h : q ∉ l) => putE_mapN (P := Try.prog) (kt := 3) (enc := IN) eqN (x := q) l 0 h
  simp only [Nat.zero_add, IN] at fN pN
  have fK := fun key l => findE_mapN (P := Try.prog) (kt := 76) (enc := encK) eqK key l 0
  have pK := fun key l (h : key ∉ l) => putE_mapN (P := Try.prog) (kt := 76) (enc := encK) eqK (x := key) l 0 h
  simp only [Nat.zero_add, encK, IN] at fK pK
  generalize hRES : (some ((quotS d s).encD, ([] : List (Nat → Option Ob)))) = RES
  rw [run_eq EE 24 _ _ Try.func24 (by decide +kernel) rfl (show 2 ≤ _ by decide)]
  dsimp only [Try.f24]
  simp only [go_sem]
  refine iter_inv (fun p : Nat × List Nat => p.1 ≤ p.2.length ∧ p.2.Nodup ∧ (∀ x ∈ p.2, x < d.accept.length) ∧ bfsL d.nx (d.accept.length - p.1) p.2 p.1 = order d s) (fun p => { t := upd (upd (upd (upd (upd e0 7 (.int .i64 p.1)) 6 (.mp 0 38)) 5 (.slc true 1 (p.2.map IN))) 4 (.ptr 0 4 0)) 2 (.ptr 0 2 0), b := upd (upd (upd n0 38 (some (Ob.map (mapN IN 0 p.2)))) 4 (some (Ob.box [.slc true 1 [], .slc true 1 []]))) 2 (some (Ob.box [.slc false 1 (d.accept.map B), .slc false 1 (d.next.map NT)])), o := [], r := #[ResultVar.cell 4 27], f := 24, n := 243 }) (fun _ => RES) (fun p => d.accept.length - p.1) ?_ (0, [s]) ⟨Nat.zero_le _, by simp, by simpa using hs, rfl⟩
  rintro ⟨i, l⟩ ⟨hi, hnd, hlt, hb⟩ ih
  dsimp only at hi hnd hlt hb ⊢
  have hll := nodup_le hnd hlt
  by_cases h : i < l.length
  · have k1 : (i : Int) < l.length := by omega
    have wi := wrap_nat (n := i) (by omega)
    have hx := hlt _ (List.getElem_mem h)
    have hg : ∀ v : V, (l.map IN).getD i v = IN l[i] := fun v => getD_map h v
    have e1 : d.accept.length - i = (d.accept.length - (i + 1)) + 1 := by omega
    rw [e1, bfs_step h] at hb
    have hlt3 := DN.nx_lt ho hx
    have ihn := ih (i + 1, ins3 l (d.nx l[i])) ⟨Nat.le_trans h (ins3_pre _ _).length_le, ins3_nodup hnd, ins3_lt hlt hlt3, hb⟩ (by show d.accept.length - (i + 1) < d.accept.length - i; omega)
    clear ih
    have kq : (l[i] : Int) < d.next.length := by omega
    have hgn : ∀ v : V, (d.next.map NT).getD l[i] v = NT (d.nx l[i]) := fun v => getD_NT (by omega) v
    generalize l[i] = q0 at hx hg hlt3 kq hgn ihn hb
    generalize d.nx q0 = tt at hlt3 hgn ihn hb
    simp only [go_sem, k1]
    rw [q_drs]
    rotate_left
    · kernel_rfl
    simp only [go_sem, k1, hg, kq, hgn]
    have hle : (ins3 l tt).length ≤ d.accept.length := nodup_le (ins3_nodup hnd) (ins3_lt hlt hlt3)
    refine iter_inv (fun j : Nat => j ≤ 3) (fun j => { t := upd (upd (upd (upd (upd (upd (upd (upd e0 56 (.int .i64 j)) 55 (.int .i64 3)) 54 (.slc false 1 ((l3 tt).map IN))) 7 (.int .i64 i)) 6 (.mp 0 38)) 5 (.slc true 1 ((((l3 tt).take j).foldl ins l).map IN))) 4 (.ptr 0 4 0)) 2 (.ptr 0 2 0), b := upd (upd (upd n0 38 (some (Ob.map (mapN IN 0 (((l3 tt).take j).foldl ins l))))) 4 (some (Ob.box [.slc true 1 [], .slc true 1 []]))) 2 (some (Ob.box [.slc false 1 (d.accept.map B), .slc false 1 (d.next.map NT)])), o := [], r := #[ResultVar.cell 4 27], f := 24, n := 243 }) (fun _ => RES) (fun j => 3 - j) ?_ 0 (by omega)
    intro j hj ihj
    by_cases h' : j < 3
    rotate_left
    · obtain rfl : j = 3 := by omega
      have e3 : ((l3 tt).take 3).foldl ins l = ins3 l tt := rfl
      rw [e3]
      have k3 : ¬ ((3 : Nat) : Int) < 3 := by omega
      simp only [go_sem, k3, wi]
      exact ihn
    have k2 : (j : Int) < 3 := by omega
    have k3 : (j : Int) < (l3 tt).length := by rw [l3_len]; omega
    have wj := wrap_nat (n := j) (by omega)
    have hg3 : ∀ v : V, ((l3 tt).map IN).getD j v = IN (l3 tt)[j] := fun v => getD_map (by rw [l3_len]; exact h') v
    have ihm := ihj (j + 1) (by omega) (by omega)
    rw [foldl_take _ _ (by rw [l3_len]; exact h')] at ihm
    have hpre : ((l3 tt).take (j + 1)).foldl ins l <+: ins3 l tt := by
      rw [← ins3_l3]
      have e : (l3 tt).foldl ins l = ((l3 tt).drop (j + 1)).foldl ins (((l3 tt).take (j + 1)).foldl ins l) := by
        rw [← List.foldl_append, List.take_append_drop]
      rw [e]
      exact foldl_ins_pre _ _
    rw [foldl_take _ _ (by rw [l3_len]; exact h')] at hpre
    generalize ((l3 tt).take j).foldl ins l = m at ihm hpre ⊢
    generalize (l3 tt)[j] = q at hg3 ihm hpre
    have f1 := fN q m
    by_cases hm : q ∈ m
    · rw [if_pos hm] at f1
      rw [ins, if_pos hm] at ihm
      simp only [go_sem, k2, k3, hg3, f1, wj, beq_self_eq_true]
      exact ihm
    · rw [if_neg hm] at f1
      rw [ins, if_neg hm] at ihm hpre
      have f2 := pN q m hm
      have f3 := fN q (m ++ [q])
      have hml : m.length + 1 ≤ d.accept.length := by
        have := hpre.length_le
        rw [List.length_append] at this
        simp only [List.length_cons, List.length_nil] at this
        omega
      have a1 : (m.length + 1) * 8 ≤ 140737488355328 := by omega
      have es := map_IN_one m q
      rw [es] at ihm
      simp only [go_sem, k2, k3, hg3, f1, f2, wj, beq_self_eq_true, a1]
      exact ihm
  have k1 : ¬ (i : Int) < l.length := by omega
  rw [bfs_done h] at hb
  subst hb
  have hO1 := order_start d s
  have hOc := order_clo ho hs
  have hR := fun k => resI_quot ho hs (k := k)
  clear ih hi h
  generalize order d s = O at *
  have hO0 : 0 < O.length := List.length_pos_of_mem hO1
  have a8 : (O.length : Int) * 8 ≤ 140737488355328 := by omega
  simp only [go_sem, k1, a8]
  clear k1
  have f0 : List.replicate O.length (V.int .i64 0) = fill (accV d) O (.int .i64 0) 0 := (fill_zero _ _ _).symm
  rw [f0]
  refine iter_inv (fun i : Nat => i ≤ O.length) (fun i => { t := upd (upd (upd (upd (upd (upd (upd (upd e0 82 (.int .i64 i)) 81 (.int .i64 O.length)) 80 (.slc false 1 (O.map IN))) 12 (.aref 0 79 O.length)) 6 (.mp 0 38)) 5 (.slc true 1 (O.map IN))) 4 (.ptr 0 4 0)) 2 (.ptr 0 2 0), b := upd (upd (upd (upd n0 79 (some (Ob.arr false 1 (fill (accV d) O (.int .i64 0) i)))) 38 (some (Ob.map (mapN IN 0 O)))) 4 (some (Ob.box [.slc true 1 [], .slc true 1 []]))) 2 (some (Ob.box [.slc false 1 (d.accept.map B), .slc false 1 (d.next.map NT)])), o := [], r := #[ResultVar.cell 4 27], f := 24, n := 243 }) (fun _ => RES) (fun i => O.length - i) ?_ 0 (Nat.zero_le _)
  intro i hi ih
  have hfl := fill_len (accV d) O (.int .i64 0) hi
  by_cases h : i < O.length
  · have k1 : (i : Int) < O.length := by omega
    have w := wrap_nat (n := i) (by omega)
    have ihn := ih (i + 1) (by omega) (by omega)
    have hx := hlt _ (List.getElem_mem h)
    have hg : ∀ v : V, (O.map IN).getD i v = IN O[i] := fun v => getD_map h v
    have kq : (O[i] : Int) < d.accept.length := by omega
    have hga : ∀ v : V, (d.accept.map B).getD O[i] v = B (accN d O[i]) := fun v => getD_B hx v
    cases hb : accN d O[i]
    · rw [← fill_same _ _ _ h (by unfold accV; rw [hb]; rfl)] at ihn
      rw [hb] at hga
      simp only [go_sem, k1, w, hg, kq, hga]
      exact ihn
    · rw [← fill_set _ _ _ h (.int .i64 1) (by unfold accV; rw [hb]; rfl)] at ihn
      rw [hb] at hga
      simp only [go_sem, k1, w, hg, kq, hga, hfl, h]
      exact ihn
  have k1 : ¬ (i : Int) < O.length := by omega
  obtain rfl : i = O.length := by omega
  clear ih hi h
  simp only [go_sem, k1, hfl, fill_all]
  rw [accV_map]
  have hinv0 := inv0 d O
  generalize (O.map fun q => if accN d q = true then 1 else 0) = k0 at hinv0 ⊢
  refine iter_inv (fun p : List Nat × Nat => InvI d O p.1 p.2 ∧ p.2 ≤ O.length) (fun p => { t := upd (upd (upd (upd (upd (upd e0 15 (.int .i64 p.2)) 12 (.slc false 1 (p.1.map IN))) 6 (.mp 0 38)) 5 (.slc true 1 (O.map IN))) 4 (.ptr 0 4 0)) 2 (.ptr 0 2 0), b := upd (upd (upd n0 38 (some (Ob.map (mapN IN 0 O)))) 4 (some (Ob.box [.slc true 1 [], .slc true 1 []]))) 2 (some (Ob.box [.slc false 1 (d.accept.map B), .slc false 1 (d.next.map NT)])), o := [], r := #[ResultVar.cell 4 27], f := 24, n := 243 }) (fun _ => RES) (fun p => O.length + 1 - p.2) ?_ (k0, 0) ⟨hinv0, Nat.zero_le _⟩
  clear hinv0 k0 k1 f0 hfl
  rintro ⟨k, cnt⟩ ⟨hinv, hcnt⟩ ih
  dsimp only at hinv hcnt ⊢
  have hkl := hinv.len
  have hnx := hinv.next hOc
  have hnl2 := names_le d O k
  have hgr := hinv.grows hOc hO0
  have hen := hinv.ends hOc hO0
  have ihn := fun hne => ih (stepN d O k, (namesOf (keysOf d O k)).length) ⟨hnx, hnl2⟩ (by have := hgr hne; show O.length + 1 - (namesOf (keysOf d O k)).length < O.length + 1 - cnt; omega)
  clear ih
  dsimp only at ihn
  have f0 : List.replicate O.length (V.int .i64 0) = fill (stepV d O k) (List.range O.length) (.int .i64 0) 0 := by rw [fill_zero, List.length_range]
  simp only [go_sem, a8]
  rw [f0]
  refine iter_inv (fun i : Nat => i ≤ O.length) (fun i => { t := upd (upd (upd (upd (upd (upd (upd (upd (upd (upd (upd e0 102 (.int .i64 i)) 101 (.int .i64 O.length)) 100 (.slc false 1 (O.map IN))) 17 (.aref 0 99 O.length)) 16 (.mp 0 96)) 15 (.int .i64 cnt)) 12 (.slc false 1 (k.map IN))) 6 (.mp 0 38)) 5 (.slc true 1 (O.map IN))) 4 (.ptr 0 4 0)) 2 (.ptr 0 2 0), b := upd (upd (upd (upd (upd n0 99 (some (Ob.arr false 1 (fill (stepV d O k) (List.range O.length) (.int .i64 0) i)))) 96 (some (Ob.map (mapN encK 0 (((keysOf d O k).take i).foldl ins []))))) 38 (some (Ob.map (mapN IN 0 O)))) 4 (some (Ob.box [.slc true 1 [], .slc true 1 []]))) 2 (some (Ob.box [.slc false 1 (d.accept.map B), .slc false 1 (d.next.map NT)])), o := [], r := #[ResultVar.cell 4 27], f := 24, n := 243 }) (fun _ => RES) (fun i => O.length - i) ?_ 0 (Nat.zero_le _)
  intro i hi ih
  have hfl := fill_len (stepV d O k) (List.range O.length) (.int .i64 0) (i := i) (by rw [List.length_range]; exact hi)
  rw [List.length_range] at hfl
  by_cases h : i < O.length
  · have k1 : (i : Int) < O.length := by omega
    have k2 : (i : Int) < k.length := by omega
    have w := wrap_nat (n := i) (by omega)
    have ihi := ih (i + 1) (by omega) (by omega)
    clear ih
    have hkk : i < (keysOf d O k).length := by rw [keys_len]; exact h
    rw [foldl_take _ _ hkk, keys_at] at ihi
    have hpre : ((keysOf d O k).take (i + 1)).foldl ins [] <+: namesOf (keysOf d O k) := by
      have e : namesOf (keysOf d O k) = ((keysOf d O k).drop (i + 1)).foldl ins (((keysOf d O k).take (i + 1)).foldl ins []) := by
        unfold namesOf
        rw [← List.foldl_append, List.take_append_drop]
      rw [e]
      exact foldl_ins_pre _ _
    rw [foldl_take _ _ hkk, keys_at] at hpre
    have hst : IN (ixK (namesOf (keysOf d O k)) (keyAt d O k i)) = stepV d O k ((List.range O.length)[i]'(by rw [List.length_range]; exact h)) := by rw [List.getElem_range]; rfl
    rw [ixK_pre hpre (ins_mem _ _)] at hst
    have hNl := names_le d O k
    have hx := hlt _ (List.getElem_mem h)
    have hg : ∀ v : V, (O.map IN).getD i v = IN O[i] := fun v => getD_map h v
    have hgk : ∀ v : V, (k.map IN).getD i v = IN (cl k i) := fun v => getD_IN (by omega) v
    have kq : (O[i] : Int) < d.next.length := by omega
    have hgn : ∀ v : V, (d.next.map NT).getD O[i] v = NT (d.nx O[i]) := fun v => getD_NT (by omega) v
    have hin := hOc _ (List.getElem_mem h)
    have hkey : keyAt d O k i = (cl k i, cl k (O.idxOf (d.nx O[i]).1), cl k (O.idxOf (d.nx O[i]).2.1), cl k (O.idxOf (d.nx O[i]).2.2)) := by
      unfold keyAt
      rw [at0_eq h]
    generalize O[i] = q at hx hg kq hgn hin hkey
    generalize d.nx q = tt at hgn hin hkey
    have g1 := fN tt.1 O
    have g2 := fN tt.2.1 O
    have g3 := fN tt.2.2 O
    rw [if_pos hin.1] at g1
    rw [if_pos hin.2.1] at g2
    rw [if_pos hin.2.2] at g3
    have l1 := idx_lt hin.1
    have l2 := idx_lt hin.2.1
    have l3' := idx_lt hin.2.2
    generalize O.idxOf tt.1 = j1 at g1 l1 hkey
    generalize O.idxOf tt.2.1 = j2 at g2 l2 hkey
    generalize O.idxOf tt.2.2 = j3 at g3 l3' hkey
    have m1 : (j1 : Int) < k.length := by omega
    have m2 : (j2 : Int) < k.length := by omega
    have m3 : (j3 : Int) < k.length := by omega
    have c1 : ∀ v : V, (k.map IN).getD j1 v = IN (cl k j1) := fun v => getD_IN (by omega) v
    have c2 : ∀ v : V, (k.map IN).getD j2 v = IN (cl k j2) := fun v => getD_IN (by omega) v
    have c3 : ∀ v : V, (k.map IN).getD j3 v = IN (cl k j3) := fun v => getD_IN (by omega) v
    generalize cl k i = a0 at hgk hkey
    generalize cl k j1 = a1 at c1 hkey
    generalize cl k j2 = a2 at c2 hkey
    generalize cl k j3 = a3 at c3 hkey
    simp only [go_sem, k1, k2, hg, hgk, kq, hgn]
    rw [iter_eq]
    simp only [go_sem, g1, m1, c1]
    rw [iter_eq]
    simp only [go_sem, g2, m2, c2]
    rw [iter_eq]
    simp only [go_sem, g3, m3, c3]
    rw [iter_eq]
    generalize ((keysOf d O k).take i).foldl ins [] = NM at ihi hpre hst ⊢
    generalize keyAt d O k i = key at ihi hpre hst hkey
    have f1 := fK key NM
    have f3 := fK key (ins NM key)
    change _ = some (if key ∈ ins NM key then some (V.int .i64 (ixK (ins NM key) key : Nat)) else none) at f3
    change _ = some (if key ∈ NM then some (V.int .i64 (ixK NM key : Nat)) else none) at f1
    rw [if_pos (ins_mem _ _)] at f3
    by_cases hm : key ∈ NM
    · rw [if_pos hm] at f1
      rw [ins, if_pos hm] at ihi f3 hst
      rw [← fill_set (stepV d O k) (List.range O.length) (.int .i64 0) (by rw [List.length_range]; exact h) _ hst] at ihi
      subst hkey
      simp only [go_sem, f1, k1, h, w, hfl]
      exact ihi
    · rw [if_neg hm] at f1
      have f2 := pK key NM hm
      rw [ins, if_neg hm] at ihi f3 hpre hst
      have hml : NM.length ≤ O.length := Nat.le_trans (by rw [List.length_append]; omega) (Nat.le_trans hpre.length_le hNl)
      rw [← fill_set (stepV d O k) (List.range O.length) (.int .i64 0) (by rw [List.length_range]; exact h) _ hst] at ihi
      subst hkey
      simp only [go_sem, f1, f2, f3, k1, h, w, hfl, mapN_len]
      exact ihi
  have k1 : ¬ (i : Int) < O.length := by omega
  obtain rfl : i = O.length := by omega
  clear ih hi h
  have et : (keysOf d O k).take O.length = keysOf d O k := List.take_of_length_le (by rw [keys_len]; exact Nat.le_refl _)
  rw [et]
  have en : (keysOf d O k).foldl ins [] = namesOf (keysOf d O k) := rfl
  rw [en]
  have ef := fill_all (stepV d O k) (List.range O.length) (.int .i64 0)
  rw [List.length_range, stepV_map] at ef
  have hsl := stepN_len d O k
  by_cases hne : (namesOf (keysOf d O k)).length = cnt
  rotate_left
  · have ihr := ihn hne
    have hb : (((namesOf (keysOf d O k)).length : Int) == (cnt : Int)) = false := by rw [nat_beq]; simpa using hne
    simp only [go_sem, k1, mapN_len, hb, ef, hsl]
    exact ihr
  have hb : (((namesOf (keysOf d O k)).length : Int) == (cnt : Int)) = true := by rw [nat_beq]; simpa using hne
  have hR1 := hR (stepN d O k) (hen hne)
  clear ihn hen hgr hnx hR
  simp only [go_sem, k1, mapN_len, hb, ef, hsl]
  rw [← hRES, ← hR1]
  clear hRES RES hR1 hinv hcnt hne hb ef et en hkl hnl2 f0 k1
  generalize stepN d O k = K at hsl ⊢
  clear k hfl
  generalize hRES : (some ((resI d O K).encD, ([] : List (Nat → Option Ob)))) = RES
  refine iter_inv (fun i : Nat => i ≤ O.length) (fun i => { t := upd (upd (upd (upd (upd (upd (upd (upd (upd (upd e0 164 (.int .i64 i)) 163 (.int .i64 O.length)) 27 (.slc true 1 ((leadsB (cl K) (List.range i)).map IN))) 26 (.mp 0 160)) 25 (.ptr 0 25 0)) 12 (.slc false 1 (K.map IN))) 6 (.mp 0 38)) 5 (.slc true 1 (O.map IN))) 4 (.ptr 0 4 0)) 2 (.ptr 0 2 0), b := upd (upd (upd (upd (upd n0 160 (some (Ob.map (mapN IN 0 ((leadsB (cl K) (List.range i)).map (cl K)))))) 38 (some (Ob.map (mapN IN 0 O)))) 25 (some (Ob.box [.slc true 1 [], .slc true 1 []]))) 4 (some (Ob.box [.slc true 1 [], .slc true 1 []]))) 2 (some (Ob.box [.slc false 1 (d.accept.map B), .slc false 1 (d.next.map NT)])), o := [], r := #[ResultVar.cell 4 27], f := 24, n := 243 }) (fun _ => RES) (fun i => O.length - i) ?_ 0 (Nat.zero_le _)
  intro i hi ih
  have hLl := leadsB_len (cl K) (List.range i)
  rw [List.length_range] at hLl
  by_cases h : i < O.length
  · have k1 : (i : Int) < O.length := by omega
    have k2 : (i : Int) < K.length := by omega
    have w := wrap_nat (n := i) (by omega)
    have ihi := ih (i + 1) (by omega) (by omega)
    clear ih
    have hgk : ∀ v : V, (K.map IN).getD i v = IN (cl K i) := fun v => getD_IN (by omega) v
    rw [List.range_succ, leadsB_snoc] at ihi
    generalize leadsB (cl K) (List.range i) = L at hLl ihi ⊢
    have f1 := fN (cl K i) (L.map (cl K))
    by_cases hm : ∃ y ∈ L, cl K y = cl K i
    · have hm' : cl K i ∈ L.map (cl K) := List.mem_map.2 hm
      rw [insB_old hm] at ihi
      rw [if_pos hm'] at f1
      simp only [go_sem, k1, k2, hgk, f1, w]
      exact ihi
    · have hm' : cl K i ∉ L.map (cl K) := fun e => hm (List.mem_map.1 e)
      rw [insB_new hm, List.map_append, List.map_append] at ihi
      rw [if_neg hm'] at f1
      have f2 := pN (cl K i) (L.map (cl K)) hm'
      rw [List.length_map] at f2
      have a1 : (L.length + 1) * 8 ≤ 140737488355328 := by omega
      simp only [go_sem, k1, k2, hgk, f1, f2, w, a1]
      exact ihi
  have k1 : ¬ (i : Int) < O.length := by omega
  obtain rfl : i = O.length := by omega
  clear ih hi h
  have hLP : leadsB (cl K) (List.range O.length) = leadP O K := rfl
  rw [hLP] at hLl ⊢
  have hLm : ∀ p ∈ leadP O K, p < O.length := fun p hp => List.mem_range.1 (leadsB_mem hp)
  have hLc : ∀ j, j < O.length → cl K j ∈ (leadP O K).map (cl K) := fun j hj => leadsB_map.2 ⟨j, List.mem_range.2 hj, rfl⟩
  have hrow : ∀ p, rowI d O K p = rowOf ((leadP O K).map (cl K)) (cl K (O.idxOf (d.nx (at0 O p)).1), cl K (O.idxOf (d.nx (at0 O p)).2.1), cl K (O.idxOf (d.nx (at0 O p)).2.2)) := fun p => rfl
  have hres : resI d O K = ⟨(leadP O K).map fun i => accN d (at0 O i), (leadP O K).map (rowI d O K)⟩ := rfl
  rw [hres] at hRES
  clear hres hLP
  generalize leadP O K = LP at *
  simp only [go_sem, k1]
  clear k1
  have hLne : LP ≠ [] := fun e => by
    have := hLc 0 hO0
    rw [e] at this
    cases this
  refine iter_inv (fun i : Nat => i ≤ LP.length) (fun i => { t := upd (upd (upd (upd (upd (upd (upd (upd (upd (upd e0 192 (.int .i64 i)) 191 (.int .i64 LP.length)) 190 (.slc false 1 (LP.map IN))) 26 (.mp 0 160)) 25 (.ptr 0 25 0)) 12 (.slc false 1 (K.map IN))) 6 (.mp 0 38)) 5 (.slc true 1 (O.map IN))) 4 (.ptr 0 4 0)) 2 (.ptr 0 2 0), b := upd (upd (upd (upd (upd n0 160 (some (Ob.map (mapN IN 0 (LP.map (cl K)))))) 38 (some (Ob.map (mapN IN 0 O)))) 25 (some (Ob.box [uqL (((LP.take i).map fun i => accN d (at0 O i)).map B), uqL (((LP.take i).map (rowI d O K)).map NU)]))) 4 (some (Ob.box [.slc true 1 [], .slc true 1 []]))) 2 (some (Ob.box [.slc false 1 (d.accept.map B), .slc false 1 (d.next.map NT)])), o := [], r := #[ResultVar.cell 4 27], f := 24, n := 243 }) (fun _ => RES) (fun i => LP.length - i) ?_ 0 (Nat.zero_le _)
  intro i hi ih
  by_cases h : i < LP.length
  rotate_left
  · have k1 : ¬ (i : Int) < LP.length := by omega
    rw [List.take_of_length_le (by omega)]
    subst hRES
    rw [List.map_map, List.map_map, uqL_map _ hLne, uqL_map _ hLne, ← List.map_map, ← List.map_map]
    simp only [go_sem, k1, DN.encD]
  have k1 : (i : Int) < LP.length := by omega
  have w := wrap_nat (n := i) (by omega)
  have ihi := ih (i + 1) (by omega) (by omega)
  clear ih
  rw [take_snoc h, List.map_append, List.map_append, List.map_append, List.map_append, List.map_cons, List.map_nil, List.map_cons, List.map_nil, List.map_cons, List.map_nil, List.map_cons, List.map_nil, hrow] at ihi
  have hgl : ∀ v : V, (LP.map IN).getD i v = IN LP[i] := fun v => getD_map h v
  have hp := hLm _ (List.getElem_mem h)
  have htk : (LP.take i).length = i := by rw [List.length_take]; omega
  have hgo : ∀ v : V, (O.map IN).getD LP[i] v = IN (at0 O LP[i]) := fun v => get_at0 hp v
  have kp : (LP[i] : Int) < O.length := by omega
  have hqm := at0_mem hp
  generalize LP[i] = p at *
  have hq := hlt _ hqm
  have hin := hOc _ hqm
  generalize at0 O p = q at *
  have kq : (q : Int) < d.next.length := by omega
  have kq' : (q : Int) < d.accept.length := by omega
  have hgn : ∀ v : V, (d.next.map NT).getD q v = NT (d.nx q) := fun v => getD_NT (by omega) v
  have hga : ∀ v : V, (d.accept.map B).getD q v = B (accN d q) := fun v => getD_B hq v
  generalize accN d q = ac at *
  generalize d.nx q = tt at *
  have g1 := fN tt.1 O
  have g2 := fN tt.2.1 O
  have g3 := fN tt.2.2 O
  rw [if_pos hin.1] at g1
  rw [if_pos hin.2.1] at g2
  rw [if_pos hin.2.2] at g3
  have l1 := idx_lt hin.1
  have l2 := idx_lt hin.2.1
  have l3' := idx_lt hin.2.2
  have n1 := fN (cl K (O.idxOf tt.1)) (LP.map (cl K))
  have n2 := fN (cl K (O.idxOf tt.2.1)) (LP.map (cl K))
  have n3 := fN (cl K (O.idxOf tt.2.2)) (LP.map (cl K))
  rw [if_pos (hLc _ l1)] at n1
  rw [if_pos (hLc _ l2)] at n2
  rw [if_pos (hLc _ l3')] at n3
  unfold rowOf at ihi
  dsimp only at ihi
  generalize O.idxOf tt.1 = j1 at *
  generalize O.idxOf tt.2.1 = j2 at *
  generalize O.idxOf tt.2.2 = j3 at *
  have m1 : (j1 : Int) < K.length := by omega
  have m2 : (j2 : Int) < K.length := by omega
  have m3 : (j3 : Int) < K.length := by omega
  have c1 : ∀ v : V, (K.map IN).getD j1 v = IN (cl K j1) := fun v => getD_IN (by omega) v
  have c2 : ∀ v : V, (K.map IN).getD j2 v = IN (cl K j2) := fun v => getD_IN (by omega) v
  have c3 : ∀ v : V, (K.map IN).getD j3 v = IN (cl K j3) := fun v => getD_IN (by omega) v
  have a1 : (i + 1) * 1 ≤ 140737488355328 := by omega
  have a2 : (i + 1) * 24 ≤ 140737488355328 := by omega
  rcases hX : LP.take i with _ | ⟨x0, X0⟩
  · rw [hX] at ihi htk
    simp only [List.map_nil, List.map_cons, List.nil_append, List.cons_append, uqL] at ihi ⊢
    simp only [go_sem, k1, hgl]
    rw [q_drs]
    rotate_left
    · kernel_rfl
    simp only [go_sem, kp, hgo, kq, hgn]
    rw [iter_eq]
    simp only [go_sem, g1, m1, c1, n1]
    rw [iter_eq]
    simp only [go_sem, g2, m2, c2, n2]
    rw [iter_eq]
    simp only [go_sem, g3, m3, c3, n3]
    rw [iter_eq]
    simp only [go_sem]
    rw [q_drawn]
    rotate_left
    · kernel_rfl
    simp only [go_sem, still, kp, hgo, kq', hga, htk, a1, a2, w, eq_self]
    exact ihi
  · rw [hX] at ihi htk
    simp only [List.map_nil, List.map_cons, List.nil_append, List.cons_append, uqL] at ihi ⊢
    simp only [List.length_nil, List.length_cons] at htk
    subst htk
    simp only [go_sem, k1, hgl]
    rw [q_drs]
    rotate_left
    · kernel_rfl
    simp only [go_sem, kp, hgo, kq, hgn]
    rw [iter_eq]
    simp only [go_sem, g1, m1, c1, n1]
    rw [iter_eq]
    simp only [go_sem, g2, m2, c2, n2]
    rw [iter_eq]
    simp only [go_sem, g3, m3, c3, n3]
    rw [iter_eq]
    simp only [go_sem]
    rw [q_drawn]
    rotate_left
    · kernel_rfl
    simp only [go_sem, still, kp, hgo, kq', hga, List.length_cons, a1, a2, w, eq_self]
    exact ihi
end Go.Ev
