/- Morphisms applied and words read: the reference's image, the program's state after a string. Words: strings of letters of at most thirty. Words read, the reference's; right quotients. Morphisms, the empty expression, validity of expressions. Preimages. Draws: a byte, a number below another, one of some words. Draws: words. Draws: automata. Draws: automata, bent. Draws: an automaton and a word. Draws: morphisms. -/
import Derived.Test.YtcmnfoombinccaaEvV
import Derived.Test.YtcmnfoombinccaaEvR
import Derived.Test.YtcmnfoombinccaaEvQ
import Derived.Test.YtcmnfoombinccaaEvS
import Derived.Test.YtcmnfoombinccaaEvP
import Derived.Test.YtcmnfoombinccaaEvT
set_option linter.unusedVariables false
set_option linter.unusedSimpArgs false
namespace Go.Ev
open Go Go.Proofs
set_option maxRecDepth 10000
set_option maxHeartbeats 4000000
set_option linter.unusedVariables false
set_option linter.unusedSimpArgs false

theorem imgM_size {m : Mor} (h1 : m.a.size ≤ 1048576) (h2 : m.b.size ≤ 1048576) (h3 : m.c.size ≤ 1048576) (s : ByteArray) {i : Nat} (h : i < s.size) : (imgM m s i).size ≤ 1048576 := by
  unfold imgM
  split
  · exact h1
  split
  · exact h2
  split
  · exact h3
  rw [one_size s i h]; decide
theorem r16 (m : Mor) (s : ByteArray) (hs : s.size ≤ 9223372036854775806) (h1 : m.a.size ≤ 1048576) (h2 : m.b.size ≤ 1048576) (h3 : m.c.size ≤ 1048576) : run EE 16 [m.enc, .str s] [] = some (.str (appM m s), []) := by
  rw [run_eq EE 16 _ _ Try.func16 (by decide +kernel) rfl (show 2 ≤ _ by decide)]
  dsimp only [Try.f16]
  simp only [go_sem]
  refine iter_inv (fun x : Nat × ByteArray => x.2.size ≤ 1048576) (fun x => { t := upd (upd (upd (upd e0 6 (.int .i64 x.1)) 5 (.str x.2)) 2 (.ptr 0 2 0)) 1 (.str s), b := upd n0 2 (some (Ob.box [.str m.a, .str m.b, .str m.c])), o := [], r := #[ResultVar.tmp 4], f := 16, n := 45 }) (fun x => some (.str (repl (imgM m s) s x.1 x.2), [])) (fun x => s.size - x.1) ?_ (0, ⟨#[]⟩) (by decide)
  rintro ⟨i, out⟩ ho ih
  dsimp only at ho ⊢
  by_cases h : i < s.size
  rotate_left
  · have k1 : ¬ (i : Int) < s.size := by omega
    rw [repl_end h]
    simp only [go_sem, k1]
  have k1 : (i : Int) < s.size := by omega
  have h2' : ((i + 1 : Nat) : Int) ≤ s.size := by omega
  have h3' : (i : Int) ≤ ((i + 1 : Nat) : Int) := by omega
  have w := wrap_nat (n := i) (by omega)
  have hb := imgM_size h1 h2 h3 s h
  have a2 : ¬ ((out.size + (imgM m s i).size : Nat) : Int) > 9223372036854775807 := by omega
  have eo : s.extract i (i + 1) = one s i := rfl
  rw [repl_next h]
  have fin : ∀ (b : ByteArray), imgM m s i = b → ∀ (k : Nat), (k : Int) = ((out ++ b).size : Nat) → True := fun _ _ _ _ => trivial
  have ihn := ih (i + 1, out ++ imgM m s i)
  dsimp only at ihn
  generalize hX : imgM m s i = X at hb a2 ihn ⊢
  unfold imgM at hX
  by_cases c1 : bt s i = 97
  · rw [if_pos c1] at hX
    subst hX
    simp only [go_sem, k1, c1, a2]
    refine condL_dec (fun z => ?_) (fun z => ?_)
    · rw [if_pos (by omega)]
      simp only [go_sem]
    · rw [if_neg (by omega)]
      simp only [go_sem, w]
      exact ihn (by omega) (by omega)
  rw [if_neg c1] at hX
  by_cases c2 : bt s i = 98
  · rw [if_pos c2] at hX
    subst hX
    simp only [go_sem, k1, c1, c2, a2, Int.reduceEq, Int.reduceBEq]
    refine condL_dec (fun z => ?_) (fun z => ?_)
    · rw [if_pos (by omega)]
      simp only [go_sem]
    · rw [if_neg (by omega)]
      simp only [go_sem, w]
      exact ihn (by omega) (by omega)
  rw [if_neg c2] at hX
  by_cases c3 : bt s i = 99
  · rw [if_pos c3] at hX
    subst hX
    simp only [go_sem, k1, c1, c2, c3, a2, Int.reduceEq, Int.reduceBEq]
    refine condL_dec (fun z => ?_) (fun z => ?_)
    · rw [if_pos (by omega)]
      simp only [go_sem]
    · rw [if_neg (by omega)]
      simp only [go_sem, w]
      exact ihn (by omega) (by omega)
  rw [if_neg c3] at hX
  subst hX
  have d1 : (bt s i == 97) = false := by simpa using c1
  have d2 : (bt s i == 98) = false := by simpa using c2
  have d3 : (bt s i == 99) = false := by simpa using c3
  simp only [go_sem, k1, d1, d2, d3, w, h2', h3', eo, a2]
  refine condL_dec (fun z => ?_) (fun z => ?_)
  · rw [if_pos (by omega)]
    simp only [go_sem]
  · rw [if_neg (by omega)]
    simp only [go_sem, w]
    exact ihn (by omega) (by omega)
theorem ltr_of {c : Int} (h : c = 97 ∨ c = 98 ∨ c = 99) (t : Nat × Nat × Nat) : (c = 97 ∧ ltr c = 0 ∧ nxL t c = t.1) ∨ (c = 98 ∧ ltr c = 1 ∧ nxL t c = t.2.1) ∨ (c = 99 ∧ ltr c = 2 ∧ nxL t c = t.2.2) := by
  rcases h with rfl | rfl | rfl
  · exact Or.inl ⟨rfl, rfl, rfl⟩
  · exact Or.inr (Or.inl ⟨rfl, rfl, rfl⟩)
  · exact Or.inr (Or.inr ⟨rfl, rfl, rfl⟩)
theorem r23 (d : DN) (hd : d.ok) (s : ByteArray) (hs : s.size ≤ 9223372036854775806) (hl : Ltrs s) (q : Nat) (hq : q < d.accept.length) : run EE 23 [d.enc, .int .i64 q, .str s] [] = some (.int .i64 (walk d s q 0), []) := by
  rw [run_eq EE 23 _ _ Try.func23 (by decide +kernel) rfl (show 3 ≤ _ by decide)]
  dsimp only [Try.f23]
  simp only [go_sem]
  refine iter_inv (fun x : Nat × Nat => x.1 < d.accept.length) (fun x => { t := upd (upd (upd (upd e0 7 (.int .i64 x.2)) 3 (.ptr 0 3 0)) 2 (.str s)) 1 (.int .i64 x.1), b := upd n0 3 (some (Ob.box [.slc false 1 (d.accept.map B), .slc false 1 (d.next.map NT)])), o := [], r := #[ResultVar.tmp 6], f := 23, n := 26 }) (fun x => some (.int .i64 (walk d s x.1 x.2), [])) (fun x => s.size - x.2) ?_ (q, 0) hq
  rintro ⟨p, i⟩ hp ih
  dsimp only at hp ⊢
  by_cases h : i < s.size
  rotate_left
  · have k1 : ¬ (i : Int) < s.size := by omega
    rw [walk_end h]
    simp only [go_sem, k1]
  have k1 : (i : Int) < s.size := by omega
  have w := wrap_nat (n := i) (by omega)
  have p1 : (p : Int) < d.next.length := by rw [hd.1]; omega
  have g1 : ∀ v : V, (d.next.map NT).getD p v = NT (d.nx p) := fun v => getD_NT (by rw [hd.1]; exact hp) v
  have li := r47 (bt s i) (bt_nonneg s i) (bt_lt s i)
  have ihn := ih (nxL (d.nx p) (bt s i), i + 1) (nxL_lt hd hp _) (by dsimp only; omega)
  rw [walk_next h]
  dsimp only at ihn
  generalize hA : d.nx p = A at g1 ihn ⊢
  simp only [go_sem, k1]
  rw [q_drawn]
  rotate_left
  · kernel_rfl
  rcases ltr_of (isLtr_abc (hl i h)) A with ⟨c, e, n⟩ | ⟨c, e, n⟩ | ⟨c, e, n⟩
  all_goals
    rw [e] at li
    rw [n] at ihn ⊢
    simp only [go_sem, k1, li, p1, g1, w]
    exact ihn
end Go.Ev
namespace Go.Ev
open Go Go.Proofs
set_option maxRecDepth 10000
set_option linter.unusedVariables false
set_option linter.unusedSimpArgs false

theorem r54 (s : ByteArray) (hs : s.size ≤ 9223372036854775806) : run EE 54 [.str s] [] = some (.bool (allB isLtr s 0), []) := by
  rw [run_eq EE 54 _ _ Try.func54 (by decide +kernel) rfl (show 1 ≤ _ by decide)]
  dsimp only [Try.f54]
  simp only [go_sem]
  refine iter_rule (fun i : Nat => { t := upd (upd e0 3 (.int .i64 i)) 0 (.str s), b := n0, o := [], r := #[ResultVar.tmp 2], f := 54, n := 15 }) (fun i => some (.bool (allB isLtr s i), [])) (fun i => s.size - i) ?_ 0
  intro i ih
  by_cases h : i < s.size
  · have h1 : (i : Int) < s.size := by omega
    have w := wrap_nat (n := i) (by omega)
    have f2 := r47 (bt s i) (bt_nonneg s i) (bt_lt s i)
    rw [allB_next isLtr s h]
    simp only [go_sem, h1, f2]
    refine condL_dec (fun c => ?_) (fun c => ?_)
    · have c' : isLtr (bt s i) = false := by unfold isLtr; simp; omega
      simp only [go_sem, c', Bool.false_and]
    · have c' : isLtr (bt s i) = true := by unfold isLtr; simp; omega
      simp only [go_sem, c', Bool.true_and, w]
      exact ih (i + 1) (by omega)
  · have h1 : ¬ (i : Int) < s.size := by omega
    rw [allB_end isLtr s h]
    simp only [go_sem, h1]
theorem r35 (s : ByteArray) (hs : s.size ≤ 9223372036854775806) : run EE 35 [.str s] [] = some (.bool (isWord s), []) := by
  have f := r54 s hs
  rw [run_eq EE 35 _ _ Try.func35 (by decide +kernel) rfl (show 1 ≤ _ by decide)]
  dsimp only [Try.f35]
  unfold isWord
  simp only [go_sem, f]
  refine guardL_bool (fun c => ?_) (fun c => ?_)
  · have c' : (s.size : Int) ≤ 30 := by simpa using c
    have c'' : s.size ≤ 30 := by omega
    simp only [go_sem, c', c'', f, Bool.true_and]
  · have c' : ¬ (s.size : Int) ≤ 30 := by simpa using c
    have c'' : ¬ s.size ≤ 30 := by omega
    simp only [go_sem, c', c'', Bool.false_and]
theorem r49 (s : ByteArray) (hs : s.size ≤ 9223372036854775806) : run EE 49 [.str s] [] = some (.bool (isWord s), []) := by
  rw [run_eq EE 49 _ _ Try.func49 (by decide +kernel) rfl (show 1 ≤ _ by decide)]
  dsimp only [Try.f49]
  simp only [go_sem]
  refine (iter_rule (fun i : Nat => { t := upd (upd e0 3 (.int .i64 i)) 0 (.str s), b := n0, o := [], r := #[ResultVar.tmp 2], f := 49, n := 18 }) (fun i => some (.bool (allB isLtr s i && decide (s.size ≤ 30)), [])) (fun i => s.size - i) ?_ 0).trans ?_
  · intro i ih
    by_cases h : i < s.size
    · have h1 : (i : Int) < s.size := by omega
      have w := wrap_nat (n := i) (by omega)
      have f2 := r50 (bt s i)
      rw [allB_next isLtr s h]
      simp only [go_sem, h1, f2]
      refine condL_dec (fun c => ?_) (fun c => ?_)
      · have c' : isLtr (bt s i) = false := by unfold isLtr; simp; omega
        simp only [go_sem, c', Bool.false_and]
      · have c' : isLtr (bt s i) = true := by unfold isLtr; simp; omega
        simp only [go_sem, c', Bool.true_and, w]
        exact ih (i + 1) (by omega)
    · have h1 : ¬ (i : Int) < s.size := by omega
      rw [allB_end isLtr s h]
      by_cases c : s.size ≤ 30
      · have c' : (s.size : Int) ≤ 30 := by omega
        simp only [go_sem, h1, c, c', Bool.true_and]
      · have c' : ¬ (s.size : Int) ≤ 30 := by omega
        simp only [go_sem, h1, c, c', Bool.true_and]
  · unfold isWord
    rw [Bool.and_comm]
end Go.Ev
namespace Go.Ev
open Go Go.Proofs
set_option maxRecDepth 10000
set_option maxHeartbeats 4000000
set_option linter.unusedVariables false
set_option linter.unusedSimpArgs false

theorem r27 (d : DN) (hv : Val d) (s : ByteArray) (hs : s.size ≤ 1048576) (hw : isWord s = true) (q : Nat) (hq : q < d.accept.length) : run EE 27 [d.enc, .int .i64 q, .str s] [] = some (.tup [.int .i64 (walk d s q 0), .bool true], []) := by
  have hd := hv.ok
  have hl := ltrs_word hw
  have hle := hv.le
  have hps := hv.pos
  have iv := r25 d.dfa (by show d.accept.length ≤ _; omega) (by show (d.next.map _).length ≤ _; rw [List.length_map, hd.1]; omega) (by
    intro r hr
    obtain ⟨t, _, rfl⟩ := List.mem_map.1 hr
    show 3 ≤ 1048576; decide)
  rw [DN.dfa_enc, hv.valid] at iv
  have iw := r49 s (by omega)
  rw [hw] at iw
  have ii := r48 (q : Int) 0 ((d.accept.length : Int) - 1)
  have w0 : IntKind.i64.wrap ((d.accept.length : Int) - 1) = (d.accept.length : Int) - 1 := wrap_in (by omega) (by omega)
  have c0 : (decide ((0 : Int) ≤ q) && decide ((q : Int) ≤ (d.accept.length : Int) - 1)) = true := by
    rw [Bool.and_eq_true, decide_eq_true_eq, decide_eq_true_eq]; omega
  rw [c0] at ii
  simp only [DN.enc] at iv
  rw [run_eq EE 27 _ _ Try.func27 (by decide +kernel) rfl (show 3 ≤ _ by decide)]
  dsimp only [Try.f27]
  simp only [go_sem, iv, iw, ii, w0, Bool.not_true]
  refine iter_inv (fun x : Nat × Nat => x.1 < d.accept.length) (fun x => { t := upd (upd (upd (upd e0 9 (.int .i64 x.2)) 8 (.int .i64 x.1)) 3 (.ptr 0 3 0)) 2 (.str s), b := upd n0 3 (some (Ob.box [.slc false 1 (d.accept.map B), .slc false 1 (d.next.map NT)])), o := [], r := #[ResultVar.tmp 6, ResultVar.tmp 7], f := 27, n := 46 }) (fun x => some (.tup [.int .i64 (walk d s x.1 x.2), .bool true], [])) (fun x => s.size - x.2) ?_ (q, 0) hq
  rintro ⟨p, i⟩ hp ih
  dsimp only at hp ⊢
  by_cases h : i < s.size
  rotate_left
  · have k1 : ¬ (i : Int) < s.size := by omega
    rw [walk_end h]
    simp only [go_sem, k1]
  have k1 : (i : Int) < s.size := by omega
  have w := wrap_nat (n := i) (by omega)
  have p1 : (p : Int) < d.next.length := by rw [hd.1]; omega
  have g1 : ∀ v : V, (d.next.map NT).getD p v = NT (d.nx p) := fun v => getD_NT (by rw [hd.1]; exact hp) v
  have li := r50 (bt s i)
  have ihn := ih (nxL (d.nx p) (bt s i), i + 1) (nxL_lt hd hp _) (by dsimp only; omega)
  rw [walk_next h]
  dsimp only at ihn
  generalize hA : d.nx p = A at g1 ihn ⊢
  simp only [go_sem, k1]
  rw [q_drawn]
  rotate_left
  · kernel_rfl
  rcases ltr_of (isLtr_abc (hl i h)) A with ⟨c, e, n⟩ | ⟨c, e, n⟩ | ⟨c, e, n⟩
  all_goals
    rw [e] at li
    rw [n] at ihn ⊢
    simp only [go_sem, k1, li, p1, g1, w]
    exact ihn
theorem uqL_m {α : Type} (f : α → V) {l : List α} (h : l ≠ []) : uqL (l.map f) = .uq 1 (l.map f) := uqL_map f h
theorem r26 (d : DN) (hv : Val d) : run EE 26 [d.enc] [] = some (d.encD, []) := by
  have hd := hv.ok
  have hle := hv.le
  have hps := hv.pos
  have hn := hd.1
  have a1 : d.accept.length * 1 ≤ 140737488355328 := by omega
  unfold DN.encD
  rw [run_eq EE 26 _ _ Try.func26 (by decide +kernel) rfl (show 1 ≤ _ by decide)]
  dsimp only [Try.f26]
  simp only [go_sem, a1]
  refine iter_inv (fun i : Nat => i ≤ d.next.length) (fun i => { t := upd (upd (upd (upd e0 4 (.int .i64 i)) 3 (.ptr 0 3 0)) 2 (.ptr 0 2 0)) 1 (.ptr 0 1 0), b := upd (upd (upd n0 3 (some (Ob.box [.uq 1 (d.accept.map B), uqL ((d.next.take i).map NU)]))) 2 (some (Ob.box [.slc true 1 [], .slc true 1 []]))) 1 (some (Ob.box [.slc false 1 (d.accept.map B), .slc false 1 (d.next.map NT)])), o := [], r := #[ResultVar.cell 2 27], f := 26, n := 30 }) (fun _ => some (.agg [.uq 1 (d.accept.map B), .uq 1 (d.next.map NU)], [])) (fun i => d.next.length - i) ?_ 0 (Nat.zero_le _)
  intro i hi ih
  by_cases h : i < d.next.length
  rotate_left
  · have k1 : ¬ (i : Int) < d.next.length := by omega
    rw [List.take_of_length_le (by omega), uqL_m _ (fun e => by rw [e] at hn; simp at hn; omega)]
    simp only [go_sem, k1]
  have k1 : (i : Int) < d.next.length := by omega
  have w := wrap_nat (n := i) (by omega)
  have ihn := ih (i + 1) (by omega) (by omega)
  rw [uqL_m _ (fun e => by have := congrArg List.length e; rw [List.length_take, List.length_nil] at this; omega), take_snoc h, List.map_append, List.map_cons, List.map_nil] at ihn
  have hg : ∀ v : V, (d.next.map NT).getD i v = NT d.next[i] := fun v => getD_map h v
  generalize d.next[i] = t at hg ihn
  have a2 : (min i d.next.length + 1) * 24 ≤ 140737488355328 := by omega
  simp only [go_sem, k1]
  rw [q_drawn]
  rotate_left
  · kernel_rfl
  by_cases hi0 : i = 0
  · have ht0 : d.next.take i = [] := by rw [hi0]; rfl
    have ez2 : uqL (([] : List (Nat × Nat × Nat)).map NU) = .slc true 1 [] := rfl
    have m3 : ((0 : Nat) + 1) * 24 ≤ 140737488355328 := by decide
    rw [ht0] at ihn ⊢
    rw [ez2]
    simp only [List.map_nil, List.nil_append] at ihn
    simp only [go_sem, still, k1, hg, a2, m3, eq_self, w]
    exact ihn
  · have hti : d.next.take i ≠ [] := fun e => by
      have := congrArg List.length e
      rw [List.length_take, List.length_nil] at this
      omega
    rw [uqL_m _ hti]
    simp only [go_sem, still, k1, hg, a2, eq_self, w]
    exact ihn
section
attribute [-go_sem] uMakes uMakes_acc peekC_aref
end
end Go.Ev
namespace Go.Ev
open Go Go.Proofs
set_option maxRecDepth 10000
set_option linter.unusedVariables false
set_option linter.unusedSimpArgs false

theorem r36 (s : ByteArray) (hs : s.size ≤ 9223372036854775806) : run EE 36 [.str s] [] = some (.bool (small s), []) := by
  have f := r49 s hs
  rw [run_eq EE 36 _ _ Try.func36 (by decide +kernel) rfl (show 1 ≤ _ by decide)]
  dsimp only [Try.f36]
  unfold small
  simp only [go_sem, f]
  refine guardL_bool (fun c => ?_) (fun c => ?_)
  · by_cases k : s.size ≤ 3
    · have k' : (s.size : Int) ≤ 3 := by omega
      simp only [go_sem, c, k, k', Bool.true_and]
    · have k' : ¬ (s.size : Int) ≤ 3 := by omega
      simp only [go_sem, c, k, k', Bool.true_and]
  · simp only [go_sem, c, Bool.false_and]
theorem r18 (m : Mor) (h1 : m.a.size ≤ 1048576) (h2 : m.b.size ≤ 1048576) (h3 : m.c.size ≤ 1048576) : run EE 18 [m.enc] [] = some (.bool (isMor m), []) := by
  have f1 := r36 m.a (by omega)
  have f2 := r36 m.b (by omega)
  have f3 := r36 m.c (by omega)
  rw [run_eq EE 18 _ _ Try.func18 (by decide +kernel) rfl (show 1 ≤ _ by decide)]
  dsimp only [Try.f18]
  unfold isMor
  simp only [go_sem, f1]
  refine guardL_bool (fun c => ?_) (fun c => ?_)
  · simp only [go_sem, c, f2, Bool.true_and]
    refine guardL_bool (fun c' => ?_) (fun c' => ?_)
    · simp only [go_sem, c, c', f3, Bool.true_and]
    · simp only [go_sem, c, c', Bool.false_and]
  · simp only [go_sem, c, Bool.false_and]
theorem r17 (m : Mor) (h1 : m.a.size ≤ 1048576) (h2 : m.b.size ≤ 1048576) (h3 : m.c.size ≤ 1048576) : run EE 17 [m.enc] [] = some (.bool (isMor m), []) := by
  have f1 := r35 m.a (by omega)
  have f2 := r35 m.b (by omega)
  have f3 := r35 m.c (by omega)
  have sm : ∀ s : ByteArray, small s = (decide (¬ (s.size : Int) > 3) && isWord s) := by
    intro s
    unfold small
    rw [Bool.and_comm]
    congr 1
    by_cases k : s.size ≤ 3
    · have k' : ¬ (s.size : Int) > 3 := by omega
      simp [k, k']
    · have k' : (s.size : Int) > 3 := by omega
      simp [k, k']
  have it2 : IntKind.i64.wrap 2 = 2 := by decide
  have it3 : IntKind.i64.wrap 3 = 3 := by decide
  rw [run_eq EE 17 _ _ Try.func17 (by decide +kernel) rfl (show 1 ≤ _ by decide)]
  dsimp only [Try.f17]
  unfold isMor
  rw [sm, sm, sm]
  by_cases k1 : (m.a.size : Int) > 3
  · simp only [go_sem, iter_eq, k1, Bool.false_and, not_true_eq_false, condL_b]
  by_cases w1 : isWord m.a = true
  rotate_left
  · have w1' : isWord m.a = false := by simpa using w1
    simp only [go_sem, iter_eq, k1, f1, w1', Bool.false_and, Bool.and_false, not_false_eq_true, Bool.not_false]
  by_cases k2 : (m.b.size : Int) > 3
  · simp only [go_sem, iter_eq, k1, f1, w1, k2, Bool.not_true, Bool.false_and, Bool.and_false, Bool.true_and, not_true_eq_false, not_false_eq_true]
  by_cases w2 : isWord m.b = true
  rotate_left
  · have w2' : isWord m.b = false := by simpa using w2
    simp only [go_sem, iter_eq, k1, f1, w1, k2, f2, w2', Bool.not_true, Bool.false_and, Bool.and_false, Bool.true_and, not_false_eq_true, Bool.not_false]
  by_cases k3 : (m.c.size : Int) > 3
  · simp only [go_sem, iter_eq, k1, f1, w1, k2, f2, w2, k3, Bool.not_true, Bool.false_and, Bool.and_false, Bool.true_and, not_true_eq_false, not_false_eq_true]
  by_cases w3 : isWord m.c = true
  · simp only [go_sem, iter_eq, k1, f1, w1, k2, f2, w2, k3, f3, w3, Bool.not_true, Bool.true_and, not_false_eq_true]
  · have w3' : isWord m.c = false := by simpa using w3
    simp only [go_sem, iter_eq, k1, f1, w1, k2, f2, w2, k3, f3, w3', Bool.not_true, Bool.true_and, not_false_eq_true, Bool.not_false]
end Go.Ev
namespace Go.Ev
open Go Go.Proofs
set_option maxRecDepth 10000
set_option maxHeartbeats 4000000
set_option linter.unusedVariables false
set_option linter.unusedSimpArgs false

theorem r6 (x : Dfa) (m : Mor) (h1 : x.accept.length ≤ 1048576) (h2 : x.next.length ≤ 1048576) (h3 : ∀ r ∈ x.next, r.length ≤ 1048576) (ha : m.a.size ≤ 1048576) (hb : m.b.size ≤ 1048576) (hc : m.c.size ≤ 1048576) : run EE 6 [x.enc, m.enc] [] = some (preR x m, []) := by
  have iv := r22 x h1 h2 h3
  have iw := r17 m ha hb hc
  simp only [Dfa.enc, Mor.enc] at iv iw
  unfold preR
  rw [run_eq EE 6 _ _ Try.func6 (by decide +kernel) rfl (show 2 ≤ _ by decide)]
  dsimp only [Try.f6]
  simp only [Mor.enc]
  cases hV : validD x
  · rw [hV] at iv
    rw [if_neg (by simp)]
    simp only [go_sem, iv, Bool.not_false]
  cases hw : isMor m
  · rw [hV] at iv
    rw [hw] at iw
    rw [if_neg (by simp)]
    simp only [go_sem, iv, iw, Bool.not_true, Bool.not_false]
  rw [hV] at iv
  rw [hw] at iw
  rw [if_pos ⟨rfl, rfl⟩]
  obtain ⟨hx, hv⟩ := validD_dn hV
  generalize x.dn = d at hx hv ⊢
  subst hx
  have hle := hv.le
  have hps := hv.pos
  obtain ⟨⟨la, sa⟩, ⟨lb, sb⟩, ⟨lc, sc⟩⟩ := isMor_ltrs hw
  have e1 : d.dfa.accept = d.accept := rfl
  have e2 : d.dfa.next.map IL = d.next.map NT := by unfold DN.dfa; rw [List.map_map]; rfl
  rw [e1, e2] at iv
  rw [DN.dfa_enc]
  simp only [go_sem, iv, iw, Bool.not_true]
  refine (iter_inv (fun i : Nat => i ≤ d.accept.length) (fun i => { t := upd (upd (upd (upd (upd (upd e0 23 (.int .i64 i)) 22 (.int .i64 d.accept.length)) 6 (.ptr 0 6 0)) 4 (.ptr 0 4 0)) 3 (.ptr 0 3 0)) 2 (.ptr 0 2 0), b := upd (upd (upd (upd n0 6 (some (Ob.box [.slc false 1 (d.accept.map B), .slc true 1 (((List.range i).map (preT d m)).map NT)]))) 4 (some (Ob.box [.slc true 1 [], .slc true 1 []]))) 3 (some (Ob.box [.str m.a, .str m.b, .str m.c]))) 2 (some (Ob.box [.slc false 1 (d.accept.map B), .slc false 1 (d.next.map NT)])), o := [], r := #[ResultVar.cell 4 27, ResultVar.tmp 5], f := 6, n := 50 }) (fun _ => some (.tup [(quotS (preD d m) 0).encD, .bool true], [])) (fun i => d.accept.length - i) ?_ 0 (Nat.zero_le _))
  intro i hi ih
  by_cases h : i < d.accept.length
  rotate_left
  · have k1 : ¬ (i : Int) < d.accept.length := by omega
    obtain rfl : i = d.accept.length := by omega
    have pv := preD_val hv m
    have lm := r24 (preD d m) pv.ok (by show d.accept.length ≤ _; omega) 0 pv.pos
    have er : (preD d m).next = (List.range d.accept.length).map (preT d m) := rfl
    have ea : (preD d m).accept = d.accept := rfl
    have z0 : ((0 : Nat) : Int) = 0 := rfl
    simp only [DN.enc] at lm
    rw [er, ea, z0] at lm
    generalize quotS (preD d m) 0 = Q at *
    simp only [DN.encD] at lm ⊢
    simp only [go_sem, k1, lm]
  have k1 : (i : Int) < d.accept.length := by omega
  have w := wrap_nat (n := i) (by omega)
  have ihn := ih (i + 1) (by omega) (by omega)
  rw [List.range_succ, List.map_append, List.map_append, List.map_cons, List.map_nil, List.map_cons, List.map_nil] at ihn
  have ra := r23 d hv.ok m.a (by omega) la i h
  have rb := r23 d hv.ok m.b (by omega) lb i h
  have rc := r23 d hv.ok m.c (by omega) lc i h
  simp only [DN.enc] at ra rb rc
  have a2 : ((List.range i).length + 1) * 24 ≤ 140737488355328 := by rw [List.length_range]; omega
  have hT : NT (preT d m i) = .slc false 1 [.int .i64 (walk d m.a i 0), .int .i64 (walk d m.b i 0), .int .i64 (walk d m.c i 0)] := rfl
  rw [hT] at ihn
  simp only [go_sem, k1, w]
  rw [q_drawn]
  rotate_left
  · kernel_rfl
  simp only [go_sem, still, ra, rb, rc, h, a2, eq_self, w]
  exact ihn
section
attribute [-go_sem] uMakes uMakes_acc peekC_aref
theorem r7 (x : Dfa) (m : Mor) (h1 : x.accept.length ≤ 1048576) (h2 : x.next.length ≤ 1048576) (h3 : ∀ r ∈ x.next, r.length ≤ 1048576) (ha : m.a.size ≤ 1048576) (hb : m.b.size ≤ 1048576) (hc : m.c.size ≤ 1048576) : run EE 7 [x.enc, m.enc] [] = some (preR x m, []) := by
  have iv := r25 x h1 h2 h3
  have iw := r18 m ha hb hc
  simp only [Dfa.enc, Mor.enc] at iv iw
  unfold preR
  rw [run_eq EE 7 _ _ Try.func7 (by decide +kernel) rfl (show 2 ≤ _ by decide)]
  dsimp only [Try.f7]
  simp only [Mor.enc]
  cases hV : validD x
  · rw [hV] at iv
    rw [if_neg (by simp)]
    simp only [go_sem, iv, Bool.not_false]
  cases hw : isMor m
  · rw [hV] at iv
    rw [hw] at iw
    rw [if_neg (by simp)]
    simp only [go_sem, iv, iw, Bool.not_true, Bool.not_false]
  rw [hV] at iv
  rw [hw] at iw
  rw [if_pos ⟨rfl, rfl⟩]
  obtain ⟨hx, hv⟩ := validD_dn hV
  generalize x.dn = d at hx hv ⊢
  subst hx
  have hle := hv.le
  have hps := hv.pos
  obtain ⟨⟨la, sa⟩, ⟨lb, sb⟩, ⟨lc, sc⟩⟩ := isMor_ltrs hw
  have e1 : d.dfa.accept = d.accept := rfl
  have e2 : d.dfa.next.map IL = d.next.map NT := by unfold DN.dfa; rw [List.map_map]; rfl
  rw [e1, e2] at iv
  rw [DN.dfa_enc]
  have cp := r26 d hv
  simp only [DN.enc, DN.encD] at cp
  have hA : d.accept ≠ [] := fun e => by rw [e] at hps; exact absurd hps (by decide)
  have fA : (d.accept.length = 0) = False := eq_false (by omega)
  have ln : d.dfa.next.length = d.accept.length := by show (d.next.map _).length = _; rw [List.length_map, hv.ok.1]
  have hN' : d.dfa.next ≠ [] := fun e => by rw [e] at ln; exact absurd ln (by simp only [List.length_nil]; omega)
  have eU : d.dfa.next.map UR = d.next.map NU := by show (d.next.map _).map UR = _; rw [List.map_map]; rfl
  simp only [go_sem, iv, iw, cp, Bool.not_true]
  generalize hb0 : (upd (upd (upd (upd n0 2 _) 3 _) 4 _) 6 _ : Nat → Option Ob) = b0
  have w0 : NoM b0 439 := hb0 ▸ ((((NoM.n0 _).st (by decide) _).st (by decide) _).st (by decide) _).st (by decide) _
  have f0 : ∀ t, famD [440] t = true → b0 t = none := fun t ht => by
    rw [← hb0, upd_fam (by decide) _ ht, upd_fam (by decide) _ ht, upd_fam (by decide) _ ht, upd_fam (by decide) _ ht]
    rfl
  have q2 := congrFun hb0.symm 2
  have q3 := congrFun hb0.symm 3
  have q4 := congrFun hb0.symm 4
  have q6 := congrFun hb0.symm 6
  simp only [go_sem] at q2 q3 q4 q6
  clear hb0
  obtain ⟨b1, mk1, x1, o1, ra⟩ := made2 b0 439 d.accept d.dfa.next w0 f0 (by decide)
  simp only [rowT, fA, if_false, ln, eU] at mk1
  rw [mk1]
  clear mk1
  replace q2 := o1.lo (by decide) q2
  replace q3 := o1.lo (by decide) q3
  replace q4 := o1.lo (by decide) q4
  replace q6 := o1.lo (by decide) q6
  have q439 := x1.acc hA
  have q440 := x1.dir hN'
  clear w0 f0 o1
  have fo : ∀ t o r f n H c, FamOk ⟨t, upd b1 6 c, o, r, f, n⟩ H [440] := fun t o r f n H c => (ra.st (by decide) c).famOk t o r f n H
  have fe : ∀ c g, famB [440] (upd b1 6 c) g = famB [440] (rowsB 440 (mixN d m 0 0) 0 n0) g := fun c g => by rw [mixN_0 hv.ok]; exact (ra.st (by decide) c).fam g
  rw [← mixN_0 hv.ok m, mixN_lens] at q440
  generalize hns : ((List.range d.accept.length).map fun _ => 3) = ns at q440
  simp only [go_sem, q2, q3, q4, q6, q439, q440, fo, fe]
  refine (iter_inv (fun i : Nat => i ≤ d.accept.length) (fun i => { t := upd (upd (upd (upd (upd e0 7 (.int .i64 i)) 6 (.ptr 0 6 0)) 4 (.ptr 0 4 0)) 3 (.ptr 0 3 0)) 2 (.ptr 0 2 0), b := famB [440] (rowsB 440 (mixN d m i 0) 0 n0) (upd (upd (upd (upd (upd (upd n0 440 (some (Ob.dir 1 (refsR 0 440 ns)))) 439 (some (Ob.arr false 1 (d.accept.map B)))) 6 (some (Ob.box [.aref 0 439 d.accept.length, .aref 0 440 d.accept.length]))) 4 (some (Ob.box [.slc true 1 [], .slc true 1 []]))) 3 (some (Ob.box [.str m.a, .str m.b, .str m.c]))) 2 (some (Ob.box [.slc false 1 (d.accept.map B), .slc false 1 (d.next.map NT)]))), o := [], r := #[ResultVar.cell 4 27, ResultVar.tmp 5], f := 7, n := 55 }) (fun _ => some (.tup [(quotS (preD d m) 0).encD, .bool true], [])) (fun i => d.accept.length - i) ?_ 0 (Nat.zero_le _))
  intro i hi ih
  by_cases h : i < d.accept.length
  rotate_left
  · have k1 : ¬ (i : Int) < d.accept.length := by omega
    obtain rfl : i = d.accept.length := by omega
    have pv := preD_val hv m
    have lm := r28 (preD d m) pv.ok (by show d.accept.length ≤ _; omega) pv.pos
    rw [minS_S pv.ok pv.pos] at lm
    rw [mixN_all]
    have ea : (preD d m).accept = d.accept := rfl
    have el : (preD d m).dfa.next.map List.length = ns := by rw [← mixN_all, mixN_lens]; exact hns
    have ep : (preD d m).dfa.next.map IL = (preD d m).next.map NT := by unfold DN.dfa; rw [List.map_map]; rfl
    have en : (preD d m).dfa.next.length = d.accept.length := by rw [← mixN_all, mixN_len]
    simp only [DN.enc] at lm
    rw [ea] at lm
    have pk := fun g (ha : g 439 = some (.arr false 1 (d.accept.map B))) (hd : g 440 = some (.dir 1 (refsR 0 440 ns))) t r f n => peeked (dfaM_fam (u := 439) (A := d.accept) (rows := (preD d m).dfa.next) (g := g) (by decide) (fun _ => ha) (fun _ => by rw [el]; exact hd)) t r f n
    have px1 := fun g ha hd t r f n => (pk g ha hd t r f n).1
    have px2 := fun g ha hd t r f n => (pk g ha hd t r f n).2
    simp only [rowR, fA, if_false, ep, en] at px1 px2
    generalize quotS (preD d m) 0 = Q at *
    simp only [DN.encD] at lm ⊢
    simp only [go_sem, k1, px1, px2, lm]
  have k1 : (i : Int) < d.accept.length := by omega
  have w := wrap_nat (n := i) (by omega)
  have ihn := ih (i + 1) (by omega) (by omega)
  simp only [go_sem, k1]
  refine iter_inv (fun k : Nat => k ≤ 3) (fun k => { t := upd (upd (upd (upd (upd (upd e0 8 (.int .i64 k)) 7 (.int .i64 i)) 6 (.ptr 0 6 0)) 4 (.ptr 0 4 0)) 3 (.ptr 0 3 0)) 2 (.ptr 0 2 0), b := famB [440] (rowsB 440 (mixN d m i k) 0 n0) (upd (upd (upd (upd (upd (upd n0 440 (some (Ob.dir 1 (refsR 0 440 ns)))) 439 (some (Ob.arr false 1 (d.accept.map B)))) 6 (some (Ob.box [.aref 0 439 d.accept.length, .aref 0 440 d.accept.length]))) 4 (some (Ob.box [.slc true 1 [], .slc true 1 []]))) 3 (some (Ob.box [.str m.a, .str m.b, .str m.c]))) 2 (some (Ob.box [.slc false 1 (d.accept.map B), .slc false 1 (d.next.map NT)]))), o := [], r := #[ResultVar.cell 4 27, ResultVar.tmp 5], f := 7, n := 55 }) (fun _ => some (.tup [(quotS (preD d m) 0).encD, .bool true], [])) (fun k => 3 - k) ?_ 0 (Nat.zero_le _)
  intro k hk ihk
  by_cases hk3 : k < 3
  rotate_left
  · obtain rfl : k = 3 := by omega
    have k3 : ¬ ((3 : Nat) : Int) < 3 := by omega
    rw [mixN_next]
    simp only [go_sem, k3, w]
    exact ihn
  have k2 : (k : Int) < 3 := by omega
  have wk := wrap_nat (n := k) (by omega)
  have ihkn := ihk (k + 1) (by omega) (by omega)
  have hnl : ns.length = d.accept.length := by rw [← hns]; simp
  have hrl : (refsR 0 440 ns).length = d.accept.length := by simp [refsR, hnl]
  have hcell : ∀ v, (refsR 0 440 ns).getD i v = .aref 0 (rid 440 i) 3 := fun v => by
    have : i < ns.length := by omega
    have e3 : ns.getD i 0 = 3 := by rw [← hns]; simp [List.getD_eq_getElem?_getD, h]
    unfold refsR
    rw [List.getD_eq_getElem?_getD, List.getElem?_map, List.getElem?_range this]
    show rowR 0 (rid 440 i) (ns.getD i 0) = _
    rw [e3]
    rfl
  have hi2 : i < (mixN d m i k).length := by rw [mixN_len]; exact h
  have hrow : rowsB 440 (mixN d m i k) 0 n0 (rid 440 i) = some (.dir 1 ((rowK (d.nx i) (preT d m i) k).map I)) := by
    rw [rowsB_at, dif_pos hi2, mixN_at d m k hi2, if_neg (rowK_ne _ _ _)]
  have hlen : (rowK (d.nx i) (preT d m i) k).length = 3 := rfl
  have hset := rowK_set (d.nx i) (preT d m i) hk3
  rw [preT_at] at hset
  replace hset : ((rowK (d.nx i) (preT d m i) k).map I).set k (.int .i64 ((walk d (mor3 m k) i 0 : Nat) : Int)) = (rowK (d.nx i) (preT d m i) (k + 1)).map I := hset
  have am := r16 m (letS k) (by have : (letS k).size ≤ 3 := (by unfold letS abcS; simp; omega); omega) ha hb hc
  rw [appM_let hw hk3] at am
  have rd := r27 d hv (mor3 m k) (by have := mor3_size hw k; omega) (mor3_word hw k) i h
  simp only [DN.enc] at rd
  simp only [Mor.enc] at am
  have hup : ∀ g, upd (famB [440] (rowsB 440 (mixN d m i k) 0 n0) g) (rid 440 i) (some (.dir 1 ((rowK (d.nx i) (preT d m i) (k + 1)).map I))) = famB [440] (rowsB 440 (mixN d m i (k + 1)) 0 n0) g := fun g => by
    have := famB_set (u := 440) (j := i) g (by decide) hi2 (rowK_ne (d.nx i) (preT d m i) (k + 1))
    rw [mixN_set] at this
    exact this
  have hrd : ∀ g, famB [440] (rowsB 440 (mixN d m i k) 0 n0) g (rid 440 i) = some (.dir 1 ((rowK (d.nx i) (preT d m i) k).map I)) := fun g => (famB_rid 440 i _ g (by decide)).trans hrow
  clear hrow
  generalize rid 440 i = R at *
  simp only [go_sem, k2]
  rw [q_drawn]
  rotate_left
  · kernel_rfl
  have c1 : (k : Int) ≤ ((k + 1 : Nat) : Int) := by omega
  have c2 : ((k + 1 : Nat) : Int) ≤ (((⟨#[97, 98, 99]⟩ : ByteArray).size : Nat) : Int) := by show ((k + 1 : Nat) : Int) ≤ 3; omega
  unfold letS abcS at am
  simp only [go_sem, still, k2, eq_self, wk, am, rd, c1, c2, k1, hrl, hcell, hrd, hlen, hset, hup, h, hk3]
  exact ihkn
end
end Go.Ev
namespace Go.Ev
open Go Go.Proofs
set_option maxRecDepth 10000
set_option maxHeartbeats 4000000
set_option linter.unusedVariables false
set_option linter.unusedSimpArgs false

theorem uByte (l : List Int) (hl : l.length ≤ 1048576) : DrawsU EE 55 [] l fun v => ∃ x : Int, 0 ≤ x ∧ x ≤ 255 ∧ v = .int .i64 x := by
  intro i h hi
  have wi := wrap_nat (n := i) (by omega)
  suffices main : ∀ (t lv : Nat) (o : List (Nat → Option Ob)), obIn t lv o = some (cur l i h) → ∀ RES, (if i < l.length then some (V.int .i64 (and64 (IntKind.i64.wrap (rawX (nextH h) + IntKind.i64.wrap (l.getD i 0))) 255), setIn t (cur l (i + 1) (nextH h)) lv o) else some (V.int .i64 (rawX (nextH h)), setIn t (cur l i (nextH h)) lv o)) = RES → run EE 55 [.ptr lv t 0] o = RES by
    by_cases hh : i < l.length
    · refine ⟨.int .i64 (and64 (IntKind.i64.wrap (rawX (nextH h) + IntKind.i64.wrap (l.getD i 0))) 255), i + 1, nextH h, ⟨_, (and255 _).1, (and255 _).2, rfl⟩, hh, fun t lv o ho => ?_⟩
      have := main t lv o ho _ rfl
      rw [if_pos hh] at this
      exact this
    · refine ⟨.int .i64 (rawX (nextH h)), i, nextH h, ⟨_, (and255 _).1, (and255 _).2, rfl⟩, hi, fun t lv o ho => ?_⟩
      have := main t lv o ho _ rfl
      rw [if_neg hh] at this
      exact this
  intro t lv o ho RES hRES
  have hlt := obIn_len ho
  have hne : ¬ lv = o.length := by omega
  have hs : ∀ ob, obIn t lv (setIn t ob lv o) = some ob := fun ob => by rw [obIn_set2 _ _ _ _ _ _ hlt, if_pos ⟨rfl, rfl⟩]
  unfold cur at ho hRES
  unfold rawX nextH at hRES
  rw [run_eq EE 55 _ _ Try.func55 (by decide +kernel) rfl (show 1 ≤ _ by decide)]
  dsimp only [Try.f55]
  simp only [go_sem, ↓arith_and64, ↓arith_xor64, ho, hne, hs, setIn_len, setIn_setIn]
  generalize IntKind.i64.wrap (IntKind.i64.wrap (h * 6364136223846793005) + 1442695040888963407) = h' at hRES ⊢
  rw [q_drs]
  rotate_left
  · kernel_rfl
  simp only [go_sem, ↓arith_and64, ↓arith_xor64, ho, hne, hs, setIn_len, setIn_setIn]
  generalize and64 (xor64 (h'.fdiv (2 ^ min 33 64)) (h'.fdiv (2 ^ min 45 64))) 255 = x at hRES ⊢
  refine (show ∀ T : Nat → V, T 0 = V.ptr lv t 0 → T 3 = V.int .i64 x → lim EE _ { t := T, b := n0, o := _, r := _, f := _, n := _ } = RES from ?_) _ rfl rfl
  intro T h0 h3
  rw [q_drs]
  rotate_left
  · kernel_rfl
  by_cases hh : i < l.length
  · have k1 : (i : Int) < l.length := by omega
    rw [if_pos hh] at hRES
    simp only [go_sem, ↓arith_and64, ↓arith_xor64, ho, hne, hs, setIn_len, setIn_setIn, List.length_map, k1, h0, h3]
    rw [q_drs]
    rotate_left
    · kernel_rfl
    simp only [go_sem, ↓arith_and64, ↓arith_xor64, ho, hne, hs, setIn_len, setIn_setIn, List.length_map, k1, h0, h3, getD_U8 _ hh, wi]
    exact hRES
  · have k1 : ¬ (i : Int) < l.length := by omega
    rw [if_neg hh] at hRES
    simp only [go_sem, ↓arith_and64, ↓arith_xor64, ho, hne, hs, setIn_len, setIn_setIn, List.length_map, k1, h0, h3]
    exact hRES
theorem obIn_push {t lv : Nat} {o : List (Nat → Option Ob)} {ob : Ob} (h : obIn t lv o = some ob) (b : Nat → Option Ob) : obIn t lv (b :: o) = some ob := by
  have := obIn_len h
  show (if lv = o.length then _ else obIn t lv o) = _
  rw [if_neg (by omega)]
  exact h
theorem uBelow (n : Int) (h1 : 0 < n) (h2 : n ≤ 256) (l : List Int) (hl : l.length ≤ 1048576) : DrawsU EE 41 [.int .i64 n] l fun v => ∃ x : Int, 0 ≤ x ∧ x < n ∧ v = .int .i64 x := by
  intro i h hi
  obtain ⟨_, i', h', ⟨x, x0, x1, rfl⟩, hi', hr⟩ := uByte l hl i h hi
  obtain ⟨r0, r1⟩ := rem_below x0 h1
  refine ⟨_, i', h', ⟨x.tmod n, r0, r1, rfl⟩, hi', fun t lv o ho => ?_⟩
  have hlt := obIn_len ho
  have hne : ¬ lv = o.length := by omega
  have hr := hr t lv _ (obIn_push ho n0)
  rw [setIn_push _ _ _ _ hlt] at hr
  have k1 : ¬ n ≤ 0 := by omega
  have k2 : ¬ n = 0 := by omega
  rw [run_eq EE 41 _ _ Try.func41 (by decide +kernel) rfl (show 2 ≤ _ by decide)]
  dsimp only [Try.f41]
  simp only [go_sem, k1, k2, h2, hne, hr]
theorem uOnce (n : Int) (h1 : 0 < n) (h2 : n ≤ 256) (l : List Int) (hl : l.length ≤ 1048576) : DrawsU EE 38 [.int .i64 n] l fun v => ∃ b : Bool, v = .bool b := by
  intro i h hi
  obtain ⟨_, i', h', ⟨x, x0, x1, rfl⟩, hi', hr⟩ := uBelow n h1 h2 l hl i h hi
  refine ⟨_, i', h', ⟨x == 0, rfl⟩, hi', fun t lv o ho => ?_⟩
  have hlt := obIn_len ho
  have hne : ¬ lv = o.length := by omega
  have hr := hr t lv _ (obIn_push ho n0)
  rw [setIn_push _ _ _ _ hlt] at hr
  rw [run_eq EE 38 _ _ Try.func38 (by decide +kernel) rfl (show 2 ≤ _ by decide)]
  dsimp only [Try.f38]
  simp only [go_sem, hne, hr]
theorem uPick (ws : List ByteArray) (h1 : 0 < ws.length) (h2 : ws.length ≤ 256) (l : List Int) (hl : l.length ≤ 1048576) : DrawsU EE 39 [.slc false 1 (ws.map V.str)] l fun v => ∃ w ∈ ws, v = .str w := by
  intro i h hi
  obtain ⟨_, i', h', ⟨x, x0, x1, rfl⟩, hi', hr⟩ := uBelow (ws.length : Int) (by omega) (by omega) l hl i h hi
  obtain ⟨n, rfl⟩ : ∃ n : Nat, x = n := ⟨x.toNat, by omega⟩
  have hn : n < ws.length := by omega
  refine ⟨_, i', h', ⟨_, List.getElem_mem hn, rfl⟩, hi', fun t lv o ho => ?_⟩
  have hlt := obIn_len ho
  have hne : ¬ lv = o.length := by omega
  have hr := hr t lv _ (obIn_push ho n0)
  rw [setIn_push _ _ _ _ hlt] at hr
  have k0 : (0 : Int) ≤ n := by omega
  rw [run_eq EE 39 _ _ Try.func39 (by decide +kernel) rfl (show 2 ≤ _ by decide)]
  dsimp only [Try.f39]
  simp only [go_sem, List.length_map, hr, k0, x1, getD_str hn, toNat_cast]
theorem dBelow (n : Int) (h1 : 0 < n) (h2 : n ≤ 256) (l : List Int) (hl : l.length ≤ 1048576) (t lv : Nat) : Draws EE 41 [.int .i64 n] l t lv fun v => ∃ x : Int, 0 ≤ x ∧ x < n ∧ v = .int .i64 x := (uBelow n h1 h2 l hl).to t lv
theorem dPick (ws : List ByteArray) (h1 : 0 < ws.length) (h2 : ws.length ≤ 256) (l : List Int) (hl : l.length ≤ 1048576) (t lv : Nat) : Draws EE 39 [.slc false 1 (ws.map V.str)] l t lv fun v => ∃ w ∈ ws, v = .str w := (uPick ws h1 h2 l hl).to t lv
end Go.Ev
namespace Go.Ev
open Go Go.Proofs
set_option maxRecDepth 10000
set_option maxHeartbeats 4000000
set_option linter.unusedVariables false
set_option linter.unusedSimpArgs false

theorem dWord (most : Nat) (hm : most < 256) (l : List Int) (hl : l.length ≤ 1048576) (t lv : Nat) : Draws EE 53 [.int .i64 most] l t lv fun v => ∃ s : ByteArray, s.size ≤ most ∧ v = .str s := by
  refine Draws.mk fun o hc hlt Q hQ => ?_
  have hne : ¬ lv = o.length := by omega
  have w1 := wrap_nat (n := most) (by omega)
  obtain ⟨_, ob, ⟨x, x0, x1, rfl⟩, hc2, hr⟩ := (dBelow ((most + 1 : Nat) : Int) (by omega) (by omega) l hl t lv).at0 hc n0
  obtain ⟨n, rfl⟩ : ∃ n : Nat, x = n := ⟨x.toNat, by omega⟩
  have hn : n ≤ most := by omega
  rw [run_eq EE 53 _ _ Try.func53 (by decide +kernel) rfl (show 2 ≤ _ by decide)]
  dsimp only [Try.f53]
  simp only [go_sem, w1, hr, hne, setIn_len]
  refine iter_ex (fun x : Nat × ByteArray × Ob => x.1 ≤ n ∧ x.2.1.size ≤ x.1 ∧ Cur l t lv (setIn t x.2.2 lv o)) (fun x => { t := upd (upd (upd (upd e0 7 (.int .i64 (x.1 : Int))) 6 (.int .i64 (n : Int))) 5 (.str x.2.1)) 0 (.ptr lv t 0), b := n0, o := setIn t x.2.2 lv o, r := #[ResultVar.tmp 4], f := 53, n := 23 }) Q (fun x => n - x.1) ?_ (0, ⟨#[]⟩, ob) ⟨Nat.zero_le _, Nat.le_refl _, hc2⟩
  rintro ⟨k, out, ob⟩ ⟨hk, hs, hc⟩ ih
  dsimp only at hk hs hc ⊢
  by_cases hh : k < n
  rotate_left
  · have k1 : ¬ (k : Int) < n := by omega
    simp only [go_sem, k1]
    exact hQ _ _ ⟨out, by omega, rfl⟩ hc
  have k1 : (k : Int) < n := by omega
  have wk := wrap_nat (n := k) (by omega)
  obtain ⟨_, ob2, ⟨w, hw, rfl⟩, hc2, hr⟩ := (dPick [⟨#[97]⟩, ⟨#[98]⟩, ⟨#[97]⟩, ⟨#[98]⟩, ⟨#[99]⟩] (by decide) (by decide) l hl t lv).at hc n0
  have hz : w.size = 1 := by
    simp only [List.mem_cons, List.not_mem_nil, or_false] at hw
    rcases hw with rfl | rfl | rfl | rfl | rfl <;> rfl
  have ihw := ih (k + 1, out ++ w, ob2) ⟨hh, by show (out ++ w).size ≤ k + 1; rw [ByteArray.size_append]; omega, hc2⟩ (by show n - (k + 1) < n - k; omega)
  have q3 : ¬ ((out.size + w.size : Nat) : Int) > 9223372036854775807 := by omega
  simp only [List.map_cons, List.map_nil] at hr
  dsimp only at ihw
  simp only [go_sem, k1, hr, hne, setIn_len, q3, wk]
  exact ihw
def anyWs (s : ByteArray) : List ByteArray := [⟨#[]⟩, ⟨#[97]⟩, ⟨#[97, 98, 99]⟩, ⟨#[99, 99]⟩, ⟨#[97, 98, 100]⟩, ⟨#[65]⟩, ⟨#[99, 99, 99, 99, 99, 99, 99, 99, 99, 99, 99, 99, 99, 99, 99, 99, 99, 99, 99, 99, 99, 99, 99, 99, 99, 99, 99, 99, 99, 99]⟩, ⟨#[97, 97, 97, 97, 97, 97, 97, 97, 97, 97, 97, 97, 97, 97, 97, 97, 97, 97, 97, 97, 97, 97, 97, 97, 97, 97, 97, 97, 97, 97, 97]⟩, ⟨#[97, 99, 99]⟩, s]
theorem dAny (l : List Int) (hl : l.length ≤ 1048576) (t lv : Nat) : Draws EE 34 [] l t lv fun v => ∃ s : ByteArray, s.size ≤ 40 ∧ v = .str s := by
  refine Draws.mk fun o hc hlt Q hQ => ?_
  have hne : ¬ lv = o.length := by omega
  obtain ⟨_, ob, ⟨s, hs, rfl⟩, hc2, hr⟩ := (dWord 6 (by decide) l hl t lv).at0 hc n0
  obtain ⟨_, ob2, ⟨w, hw, rfl⟩, hc3, hr2⟩ := (dPick (anyWs s) (by simp [anyWs]) (by simp [anyWs]) l hl t lv).at hc2 n0
  have hz : w.size ≤ 40 := by
    simp only [anyWs, List.mem_cons, List.not_mem_nil, or_false] at hw
    rcases hw with rfl | rfl | rfl | rfl | rfl | rfl | rfl | rfl | rfl | rfl
    all_goals first | omega | (show _ ≤ _; decide)
  simp only [anyWs, List.map_cons, List.map_nil] at hr2
  have hr' : run EE 53 [.ptr lv t 0, .int .i64 6] _ = _ := hr
  rw [run_eq EE 34 _ _ Try.func34 (by decide +kernel) rfl (show 1 ≤ _ by decide)]
  dsimp only [Try.f34]
  simp only [go_sem, hr', hne, setIn_len, hr2]
  exact hQ _ _ ⟨w, hz, rfl⟩ hc3
end Go.Ev
namespace Go.Ev
open Go Go.Proofs
set_option maxRecDepth 10000
set_option maxHeartbeats 4000000
set_option linter.unusedVariables false
set_option linter.unusedSimpArgs false

theorem uqL_m2 {α : Type} (f : α → V) {l : List α} (h : l ≠ []) : uqL (l.map f) = .uq 1 (l.map f) := uqL_map f h
/-- an automaton as it was drawn -/
def drawnA (A : List Bool) (N : List (List Int)) : V := .agg [.slc true 1 (A.map B), .uq 1 (N.map UR)]
theorem dDraw (most : Nat) (h0 : 0 < most) (hm : most < 200) (l : List Int) (hl : l.length ≤ 1048576) (t lv : Nat) : Draws EE 40 [.int .i64 most] l t lv fun v => ∃ A N, 1 ≤ A.length ∧ A.length ≤ most ∧ N.length = A.length ∧ (∀ r ∈ N, r.length = 3) ∧ v = drawnA A N := by
  refine Draws.mk fun o hc hlt Q hQ => ?_
  have hne : ¬ lv = o.length := by omega
  obtain ⟨_, ob, ⟨x, x0, x1, rfl⟩, hc2, hr⟩ := (dBelow (most : Int) (by omega) (by omega) l hl t lv).at0 hc (upd n0 4 (some (Ob.box [.slc true 1 [], .slc true 1 []])))
  obtain ⟨n, rfl⟩ : ∃ n : Nat, x = n := ⟨x.toNat, by omega⟩
  have hn : n < most := by omega
  have w1 : IntKind.i64.wrap (1 + (n : Int)) = ((n + 1 : Nat) : Int) := by rw [wrap_in (by omega) (by omega)]; omega
  rw [run_eq EE 40 _ _ Try.func40 (by decide +kernel) rfl (show 2 ≤ _ by decide)]
  dsimp only [Try.f40]
  simp only [go_sem, w1, hr, hne, setIn_len, false_and, if_false]
  refine iter_ex (fun x : Nat × List Bool × List (List Int) × Ob => x.1 ≤ n + 1 ∧ x.2.1.length = x.1 ∧ x.2.2.1.length = x.1 ∧ (∀ r ∈ x.2.2.1, r.length = 3) ∧ Cur l t lv (setIn t x.2.2.2 lv o)) (fun x => { t := upd (upd (upd (upd (upd e0 7 (.int .i64 (x.1 : Int))) 6 (.ptr o.length 6 0)) 5 (.int .i64 ((n + 1 : Nat) : Int))) 4 (.ptr o.length 4 0)) 0 (.ptr lv t 0), b := upd (upd n0 6 (some (Ob.box [.slc true 1 (x.2.1.map B), uqL (x.2.2.1.map UR)]))) 4 (some (Ob.box [.slc true 1 [], .slc true 1 []])), o := setIn t x.2.2.2 lv o, r := #[ResultVar.cell 4 27], f := 40, n := 45 }) Q (fun x => n + 1 - x.1) ?_ (0, [], [], ob) ⟨Nat.zero_le _, rfl, rfl, (by intro r hr; cases hr), hc2⟩
  rintro ⟨k, A, N, ob⟩ ⟨hk, hA, hN, hR, hc⟩ ih
  dsimp only at hk hA hN hR hc ⊢
  by_cases hh : k < n + 1
  rotate_left
  · have k1 : ¬ (k : Int) < ((n + 1 : Nat) : Int) := by omega
    have hne2 : N ≠ [] := fun e => by rw [e] at hN; simp at hN; omega
    rw [uqL_m2 _ hne2]
    simp only [go_sem, k1, hne, setIn_len]
    exact hQ _ _ ⟨A, N, by omega, by omega, by omega, hR, rfl⟩ hc
  have k1 : (k : Int) < ((n + 1 : Nat) : Int) := by omega
  have wk := wrap_nat (n := k) (by omega)
  obtain ⟨_, ob2, ⟨b, rfl⟩, hc2, hr⟩ := (uOnce 2 (by decide) (by decide) l hl).at hc
  have a1 : (A.length + 1) * 1 ≤ 140737488355328 := by omega
  simp only [go_sem, k1]
  rw [q_drt 6 (a := 1) (b := 3) (c2 := [0, 2, 3, 1, 4, 5, 6, 7])]
  rotate_left
  · kernel_rfl
  · kernel_rfl
  simp only [go_sem, hr, hne, setIn_len, a1, List.length_map]
  refine same_go ?_ ?_
  · congr 1
    funext z
    by_cases hz : 20 ≤ z ∧ z ≤ 26
    · have : z = 20 ∨ z = 21 ∨ z = 22 ∨ z = 23 ∨ z = 24 ∨ z = 25 ∨ z = 26 := by omega
      rcases this with rfl | rfl | rfl | rfl | rfl | rfl | rfl <;> rfl
    · simp only [upd_get, if_neg (show ¬ z = 20 by omega), if_neg (show ¬ z = 21 by omega), if_neg (show ¬ z = 22 by omega), if_neg (show ¬ z = 23 by omega), if_neg (show ¬ z = 24 by omega), if_neg (show ¬ z = 25 by omega), if_neg (show ¬ z = 26 by omega)]
  refine (show ∀ T : Nat → V, T 0 = V.ptr lv t 0 → T 4 = V.ptr o.length 4 0 → T 5 = V.int .i64 ((n + 1 : Nat) : Int) → T 6 = V.ptr o.length 6 0 → T 7 = V.int .i64 (k : Int) → Q (lim EE _ { t := T, b := _, o := _, r := _, f := _, n := _ }) from ?_) _ rfl rfl rfl rfl rfl
  intro T t0 t4 t5 t6 t7
  have eA : A.map B ++ [V.bool b] = (A ++ [b]).map B := by rw [List.map_append]; rfl
  simp only [go_sem, hne, setIn_len, false_and, if_false, uqL_c, t0, t4, t5, t6, t7, eA]
  have hA2 : (A ++ [b]).length = k + 1 := by rw [List.length_append, hA]; rfl
  generalize A ++ [b] = A2 at hA2
  refine iter_ex (fun x : Nat × List Int × Ob => x.1 ≤ 3 ∧ x.2.1.length = x.1 ∧ Cur l t lv (setIn t x.2.2 lv o)) (fun x => { t := upd (upd (upd (upd (upd (upd (upd e0 9 (.int .i64 (x.1 : Int))) 8 (uqL (x.2.1.map I))) 7 (.int .i64 (k : Int))) 6 (.ptr o.length 6 0)) 5 (.int .i64 ((n + 1 : Nat) : Int))) 4 (.ptr o.length 4 0)) 0 (.ptr lv t 0), b := upd (upd n0 6 (some (Ob.box [.slc true 1 (A2.map B), uqL (N.map UR)]))) 4 (some (Ob.box [.slc true 1 [], .slc true 1 []])), o := setIn t x.2.2 lv o, r := #[ResultVar.cell 4 27], f := 40, n := 45 }) Q (fun x => 3 - x.1) ?_ (0, [], ob2) ⟨Nat.zero_le _, rfl, hc2⟩
  rintro ⟨j, row, ob3⟩ ⟨hj, hrow, hc3⟩ ih2
  dsimp only at hj hrow hc3 ⊢
  by_cases hh2 : j < 3
  · have k2 : (j : Int) < 3 := by omega
    have wj := wrap_nat (n := j) (by omega)
    obtain ⟨_, ob4, ⟨x, x0', x1', rfl⟩, hc4, hr4⟩ := (uBelow ((n + 1 : Nat) : Int) (by omega) (by omega) l hl).at hc3
    have a2 : (row.length + 1) * 8 ≤ 140737488355328 := by omega
    have ihn := ih2 (j + 1, row ++ [x], ob4) ⟨hh2, by show (row ++ [x]).length = j + 1; rw [List.length_append, hrow]; rfl, hc4⟩ (by show 3 - (j + 1) < 3 - j; omega)
    dsimp only at ihn
    have eI : uqL ((row ++ [x]).map I) = .uq 1 (row.map I ++ [.int .i64 x]) := by
      rw [uqL_m2 _ (by simp), List.map_append]; rfl
    rw [eI] at ihn
    by_cases hj0 : row = []
    · subst hj0
      have ez : uqL (([] : List Int).map I) = .slc true 1 [] := rfl
      have a3 : (0 + 1) * 8 ≤ 140737488355328 := by decide
      rw [ez]
      simp only [List.map_nil, List.nil_append] at ihn
      simp only [go_sem, k2, hr4, hne, setIn_len, false_and, if_false, uqL_c, a3, wj]
      exact ihn
    · rw [uqL_m2 _ hj0]
      simp only [go_sem, k2, hr4, hne, setIn_len, false_and, if_false, uqL_c, a2, wj, List.length_map]
      exact ihn
  have k2 : ¬ (j : Int) < 3 := by omega
  have hr0 : row ≠ [] := fun e => by rw [e] at hrow; simp at hrow; omega
  rw [uqL_m2 _ hr0]
  have ihn := ih (k + 1, A2, N ++ [row], ob3) ⟨hh, hA2, by show (N ++ [row]).length = k + 1; rw [List.length_append, hN]; rfl, fun r hr => by
    rcases List.mem_append.1 hr with h | h
    · exact hR r h
    · rw [List.mem_singleton.1 h]; omega, hc3⟩ (by show n + 1 - (k + 1) < n + 1 - k; omega)
  dsimp only at ihn
  have eU : uqL ((N ++ [row]).map UR) = .uq 1 (N.map UR ++ [.uq 1 (row.map I)]) := by
    rw [uqL_m2 _ (by simp), List.map_append]; rfl
  rw [eU] at ihn
  have a4 : (N.length + 1) * 24 ≤ 140737488355328 := by omega
  by_cases hN0 : N = []
  · subst hN0
    have ez : uqL (([] : List (List Int)).map UR) = .slc true 1 [] := rfl
    have a5 : 1 * 24 ≤ 140737488355328 := by decide
    rw [ez]
    simp only [List.map_nil, List.nil_append] at ihn
    simp only [go_sem, k2, hne, setIn_len, false_and, if_false, a5, wk]
    exact ihn
  · rw [uqL_m2 _ hN0]
    simp only [go_sem, k2, hne, setIn_len, false_and, if_false, a4, wk, List.length_map]
    exact ihn
end Go.Ev
namespace Go.Ev
open Go Go.Proofs
set_option maxRecDepth 10000
set_option maxHeartbeats 4000000
set_option linter.unusedVariables false
set_option linter.unusedSimpArgs false

theorem uMakesN_auto (s : St) (d : Nat) (A : List Bool) {N : List (List Int)} (hN : N ≠ []) (h : s.b (d + 1) = none) : uMakesN s d [.slc true 1 (A.map B), .uq 1 (N.map UR)] = some ([.slc true 1 (A.map B), .bref s.lv (d + 1) N.length], { s with b := upd s.b (d + 1) (some (.box (N.map UR))) }) := by
  have hfl : ∀ M : List (List Int), ((M.map UR).map V.flat).flatten = M.map UR := by
    intro M
    induction M with
    | nil => rfl
    | cons r M ih =>
      rw [List.map_cons, List.map_cons, List.flatten_cons, ih]
      rfl
  have e : uMakeN s (d + 1) (.uq 1 (N.map UR)) = some (.bref s.lv (d + 1) N.length, { s with b := upd s.b (d + 1) (some (.box (N.map UR))) }) := by
    cases N with
    | nil => exact absurd rfl hN
    | cons r N =>
      have e1 := hfl (r :: N)
      have e2 : flatPure ((r :: N).map UR) = false := by
        unfold flatPure
        rw [e1]
        simp [UR, pureC]
      have e3 : ((r :: N).map UR).all cellU = true := by
        rw [List.all_eq_true]
        intro v hv
        obtain ⟨x, _, rfl⟩ := List.mem_map.1 hv
        rfl
      rw [List.map_cons] at e1 e2 e3 ⊢
      unfold uMakeN
      dsimp only
      rw [e2, e1, e3, h]
      simp
  unfold uMakesN
  have e0 : uMakesN s (d + 1) [.uq 1 (N.map UR)] = some ([.bref s.lv (d + 1) N.length], { s with b := upd s.b (d + 1) (some (.box (N.map UR))) }) := by
    unfold uMakesN
    have : uMakesN s (d + 1 + 1) [] = some ([], s) := rfl
    rw [this]
    dsimp only
    rw [e]
    rfl
  rw [e0]
  rfl
attribute [go_sem high] uMakesN_auto
theorem peekR_UR (s : St) (n : Nat) (r : List Int) : peekR s n (UR r) = some (IL r) := by
  have : peekR s n (UR r) = some (V.ice (UR r)) := by cases n <;> rfl
  rw [this]
  have := ice_UR [r]
  simp only [List.map_cons, List.map_nil, List.cons.injEq, and_true] at this
  rw [this]
theorem peekR_URs (s : St) (n : Nat) (N : List (List Int)) : mapOpt (peekR s n) (N.map UR) = some (N.map IL) := by
  induction N with
  | nil => rfl
  | cons r N ih =>
    rw [List.map_cons]
    unfold mapOpt
    rw [peekR_UR, ih]
    rfl
theorem peekW_auto {s : St} {b : Bool} {L : List V} {lv u n : Nat} {cs ds : List V} (hl : lv = s.lv) (h : s.b u = some (.box cs)) (hn : cs.length = n) (hm : mapOpt (peekR s 8) cs = some ds) : peekW s (.agg [.slc b 1 L, .bref lv u n]) = some (.agg [.slc false 1 L, .slc false 1 ds]) := by
  have e2 : peekR s 9 (.bref lv u n) = some (.slc false 1 ds) := by
    unfold peekR
    rw [if_pos hl, h]
    dsimp only
    rw [if_pos hn, hm]
    rfl
  have e1 : peekR s 9 (.slc b 1 L) = some (.slc false 1 L) := by
    unfold peekR
    rfl
  unfold peekW
  dsimp only
  unfold mapOpt
  rw [e1]
  unfold mapOpt
  rw [e2]
  rfl
theorem peekR_aref {s : St} {lv t k n sz : Nat} {b : Bool} {l : List V} (hl : lv = s.lv) (h : s.b t = some (.arr b sz l)) (hk : l.length = k) : peekR s (n + 1) (.aref lv t k) = some (.slc false sz l) := by
  unfold peekR
  rw [if_pos hl, h]
  dsimp only
  rw [if_pos hk]
theorem peek_row {s : St} {n : Nat} {c0 d0 : V} {N : List (List Int)} (h : peekR s n c0 = some d0) : mapOpt (peekR s n) (c0 :: N.map UR) = some (d0 :: N.map IL) := by
  unfold mapOpt
  rw [h, peekR_URs]
theorem peek_fin {Q : Rs → Prop} {s : St} {b : Bool} {L : List V} {lv u n : Nat} {cs ds : List V} (hl : lv = s.lv) (h : s.b u = some (.box cs)) (hn : cs.length = n) (hm : mapOpt (peekR s 8) cs = some ds) (hq : Q (some (.agg [.slc false 1 L, .slc false 1 ds], s.o))) : Q (endL (Option.map (fun x => (x, s)) (peekW s (.agg [.slc b 1 L, .bref lv u n])))) := by
  rw [peekW_auto hl h hn hm]
  exact hq
theorem dBent (l : List Int) (hl : l.length ≤ 1048576) (t lv : Nat) : Draws EE 21 [] l t lv fun v => ∃ x : Dfa, x.accept.length ≤ 100 ∧ x.next.length ≤ 100 ∧ (∀ r ∈ x.next, r.length ≤ 100) ∧ v = x.enc := by
  refine Draws.mk fun o hc hlt Q hQ => ?_
  have hne : ¬ lv = o.length := by omega
  obtain ⟨_, ob, ⟨A, N, hA1, hA5, hN, hR, rfl⟩, hc2, hr⟩ := (dDraw 5 (by decide) (by decide) l hl t lv).at0 hc (upd n0 2 (some (Ob.box [.slc true 1 [], .slc true 1 []])))
  have hN0 : N ≠ [] := fun e => by rw [e] at hN; simp at hN; omega
  obtain ⟨_, ob2, ⟨x, x0, x1, rfl⟩, hc3, hr2⟩ := (uBelow 12 (by decide) (by decide) l hl).at hc2
  have hr' : run EE 40 [.ptr lv t 0, .int .i64 5] _ = _ := hr
  unfold drawnA at hr'
  rw [run_eq EE 21 _ _ Try.func21 (by decide +kernel) rfl (show 1 ≤ _ by decide)]
  dsimp only [Try.f21]
  simp only [go_sem, hr', hr2, hne, setIn_len, hN0, Nat.le_refl]
  obtain ⟨r0, N1, rfl⟩ := List.exists_cons_of_ne_nil hN0
  obtain ⟨a, b, c, rfl⟩ : ∃ a b c, r0 = [a, b, c] := by
    have := hR r0 (List.mem_cons_self ..)
    match r0, this with
    | [a, b, c], _ => exact ⟨a, b, c, rfl⟩
  have hf : flatPure [.int .i64 a, .int .i64 b, .int .i64 c] = true := rfl
  have k0 : (0 : Int) < ((N1.length + 1 : Nat) : Int) := by omega
  by_cases g0 : x = 0
  · subst g0
    simp only [go_sem, UR, I]
    rw [q_drawn]
    rotate_left
    · kernel_rfl
    simp only [go_sem, still, hne, setIn_len, hf, UR, I, k0, Nat.zero_lt_succ, Nat.le_refl]
    refine peek_fin (by show o.length = (setIn t ob2 lv o).length; rw [setIn_len]) rfl (by simp) (peek_row (d0 := IL [(A.length : Int), b, c]) ?_) ?_
    · exact peekR_aref (by show o.length = (setIn t ob2 lv o).length; rw [setIn_len]) rfl rfl
    exact hQ _ _ ⟨⟨A, [(A.length : Int), b, c] :: N1⟩, by show A.length ≤ 100; omega, by show ([(A.length : Int), b, c] :: N1).length ≤ 100; simp at hN ⊢; omega, fun r hr => by
      rcases List.mem_cons.1 hr with rfl | hr
      · show 3 ≤ 100; decide
      · have := hR r (List.mem_cons_of_mem _ hr); omega, rfl⟩ hc3
  have b0 : (x == 0) = false := by simpa using g0
  by_cases g1 : x = 1
  · subst g1
    have a1 : (A.length + 1) * 1 ≤ 140737488355328 := by omega
    simp only [go_sem, hne, setIn_len, b0, a1, Nat.le_refl]
    have eA : A.map B ++ [V.bool true] = (A ++ [true]).map B := by rw [List.map_append]; rfl
    rw [eA]
    refine peek_fin (by show o.length = (setIn t ob2 lv o).length; rw [setIn_len]) rfl (by simp) (peek_row (peekR_UR _ _ [a, b, c])) ?_
    exact hQ _ _ ⟨⟨A ++ [true], [a, b, c] :: N1⟩, by show (A ++ [true]).length ≤ 100; rw [List.length_append]; simp; omega, by show ([a, b, c] :: N1).length ≤ 100; omega, fun r hr => by have := hR r hr; omega, rfl⟩ hc3
  have b1 : (x == 1) = false := by simpa using g1
  by_cases g2 : x = 2
  · subst g2
    simp only [go_sem, b0, b1, UR, I]
    rw [q_drawn]
    rotate_left
    · kernel_rfl
    simp only [go_sem, still, hne, setIn_len, UR, I, k0, Nat.le_refl]
    refine peek_fin (by show o.length = (setIn t ob2 lv o).length; rw [setIn_len]) rfl (by simp) (peek_row (peekR_UR _ _ [a, b, c, 0])) ?_
    exact hQ _ _ ⟨⟨A, [a, b, c, 0] :: N1⟩, by show A.length ≤ 100; omega, by show ([a, b, c, 0] :: N1).length ≤ 100; simp at hN ⊢; omega, fun r hr => by
      rcases List.mem_cons.1 hr with rfl | hr
      · show 4 ≤ 100; decide
      · have := hR r (List.mem_cons_of_mem _ hr); omega, rfl⟩ hc3
  have b2 : (x == 2) = false := by simpa using g2
  simp only [go_sem, hne, setIn_len, b0, b1, b2, Nat.le_refl]
  refine peek_fin (by show o.length = (setIn t ob2 lv o).length; rw [setIn_len]) rfl (by simp) (peek_row (peekR_UR _ _ [a, b, c])) ?_
  exact hQ _ _ ⟨⟨A, [a, b, c] :: N1⟩, by show A.length ≤ 100; omega, by show ([a, b, c] :: N1).length ≤ 100; omega, fun r hr => by have := hR r hr; omega, rfl⟩ hc3
end Go.Ev
namespace Go.Ev
open Go Go.Proofs
set_option maxRecDepth 10000
set_option maxHeartbeats 4000000
set_option linter.unusedVariables false
set_option linter.unusedSimpArgs false

theorem r19 (l : List Int) (hl : l.length ≤ 1048576) : ∃ h : Int, run EE 19 [.slc false 1 (l.map U8)] [] = some (.nw [.slc false 1 (l.map U8), .int .i64 0, .int .i64 h], []) := by
  suffices H : ∀ Q : Rs → Prop, (∀ h : Int, Q (some (.nw [.slc false 1 (l.map U8), .int .i64 0, .int .i64 h], []))) → Q (run EE 19 [.slc false 1 (l.map U8)] []) from
    H (fun r => ∃ h : Int, r = some (.nw [.slc false 1 (l.map U8), .int .i64 0, .int .i64 h], [])) fun h => ⟨h, rfl⟩
  intro Q hQ
  rw [run_eq EE 19 _ _ Try.func19 (by decide +kernel) rfl (show 1 ≤ _ by decide)]
  dsimp only [Try.f19]
  simp only [go_sem, List.length_map]
  refine iter_ex (fun x : Nat × Int => x.1 ≤ l.length) (fun x => { t := upd (upd (upd e0 4 (.int .i64 (x.1 : Int))) 3 (.int .i64 x.2)) 0 (.slc false 1 (l.map U8)), b := n0, o := [], r := #[ResultVar.tmp 2], f := 19, n := 32 }) Q (fun x => l.length - x.1) ?_ (0, IntKind.i64.wrap (26583 + (l.length : Int))) (Nat.zero_le _)
  rintro ⟨k, h⟩ hk ih
  dsimp only at hk ⊢
  have fin : Q (some (.nw [.slc false 1 (l.map U8), .int .i64 0, .int .i64 h], [])) := hQ h
  by_cases hh : k < l.length
  rotate_left
  · have k1 : ¬ (k : Int) < l.length := by omega
    simp only [go_sem, List.length_map, k1]
    exact fin
  have k1 : (k : Int) < l.length := by omega
  have k0 : (0 : Int) ≤ k := by omega
  have wk := wrap_nat (n := k) (by omega)
  by_cases h4 : (k : Int) < 4000
  rotate_left
  · simp only [go_sem, List.length_map, k1, h4]
    exact fin
  have ihn := fun h' => ih (k + 1, h') hh (by show l.length - (k + 1) < l.length - k; omega)
  dsimp only at ihn
  simp only [go_sem, ↓arith_and64, List.length_map, k1, k0, h4, getD_U8 _ hh, wk, toNat_cast]
  exact ihn _
theorem DrawsU.of {E : Env} {f : Nat} {args : List V} {l : List Int} {P : V → Prop} (h : DrawsU E f args l P) {i : Nat} (hi : i ≤ l.length) (x : Int) : ∃ v i' h', P v ∧ i' ≤ l.length ∧ ∀ (t lv : Nat) (o : List (Nat → Option Ob)), obIn t lv o = some (cur l i x) → run E f (.ptr lv t 0 :: args) o = some (v, setIn t (cur l i' h') lv o) := h i x hi
end Go.Ev
namespace Go.Ev
open Go Go.Proofs
set_option maxRecDepth 10000
set_option maxHeartbeats 4000000
set_option linter.unusedVariables false
set_option linter.unusedSimpArgs false

theorem DrawsU.at1 {E : Env} {f : Nat} {args : List V} {l : List Int} {P : V → Prop} (h : DrawsU E f args l P) {t lv : Nat} {o : List (Nat → Option Ob)} (hc : Cur l t lv o) :
    ∃ v ob', P v ∧ Cur l t lv (setIn t ob' lv o) ∧ ∀ b, run E f (.ptr lv t 0 :: args) (b :: o) = some (v, b :: setIn t ob' lv o) := by
  obtain ⟨ob0, e⟩ := hc.self
  rw [← e] at hc
  obtain ⟨v, ob', h1, h2, h3⟩ := h.at hc
  rw [e] at h3
  exact ⟨v, ob', h1, h2, h3⟩
/-- a morphism of short images -/
def Mor.le (m : Mor) : Prop := m.a.size ≤ 4 ∧ m.b.size ≤ 4 ∧ m.c.size ≤ 4
def imA : List ByteArray := [⟨#[97]⟩, ⟨#[98]⟩, ⟨#[]⟩, ⟨#[97, 98]⟩, ⟨#[99, 99, 97]⟩]
def imB : List ByteArray := [⟨#[98]⟩, ⟨#[97]⟩, ⟨#[]⟩, ⟨#[98, 98]⟩]
def imC : List ByteArray := [⟨#[99]⟩, ⟨#[]⟩, ⟨#[97, 98, 99]⟩]
def imX : List ByteArray := [⟨#[97, 97, 97, 97]⟩, ⟨#[100]⟩, ⟨#[88]⟩]
theorem im_le {w : ByteArray} (h : w ∈ imA ∨ w ∈ imB ∨ w ∈ imC ∨ w ∈ imX) : w.size ≤ 4 := by
  unfold imA imB imC imX at h
  simp only [List.mem_cons, List.not_mem_nil, or_false] at h
  rcases h with (rfl | rfl | rfl | rfl | rfl) | (rfl | rfl | rfl | rfl) | (rfl | rfl | rfl) | (rfl | rfl | rfl)
  all_goals (show _ ≤ _; decide)
theorem dMorD (l : List Int) (hl : l.length ≤ 1048576) (t lv : Nat) : Draws EE 37 [] l t lv fun v => ∃ m : Mor, m.le ∧ v = m.enc := by
  refine Draws.mk fun o hc hlt Q hQ => ?_
  have hne : ¬ lv = o.length := by omega
  obtain ⟨_, ob, ⟨a, ha, rfl⟩, hc2, hr⟩ := (uPick imA (by decide) (by decide) l hl).at1 hc
  obtain ⟨_, ob2, ⟨b, hb, rfl⟩, hc3, hr2⟩ := (uPick imB (by decide) (by decide) l hl).at hc2
  obtain ⟨_, ob3, ⟨c, hcc, rfl⟩, hc4, hr3⟩ := (uPick imC (by decide) (by decide) l hl).at hc3
  simp only [imA, imB, imC, List.map_cons, List.map_nil] at hr hr2 hr3
  rw [run_eq EE 37 _ _ Try.func37 (by decide +kernel) rfl (show 1 ≤ _ by decide)]
  dsimp only [Try.f37]
  simp only [go_sem, hr, hr2, hr3, hne, setIn_len]
  exact hQ _ _ ⟨⟨a, b, c⟩, ⟨im_le (.inl ha), im_le (.inr (.inl hb)), im_le (.inr (.inr (.inl hcc)))⟩, rfl⟩ hc4
theorem dMor (l : List Int) (hl : l.length ≤ 1048576) (t lv : Nat) : Draws EE 20 [] l t lv fun v => ∃ m : Mor, m.le ∧ v = m.enc := by
  refine Draws.mk fun o hc hlt Q hQ => ?_
  have hne : ¬ lv = o.length := by omega
  obtain ⟨_, ob, ⟨m, hm, rfl⟩, hc2, hr⟩ := (dMorD l hl t lv).at0 hc (upd n0 2 (some (Ob.box [.str ⟨#[]⟩, .str ⟨#[]⟩, .str ⟨#[]⟩])))
  obtain ⟨_, ob2, ⟨b, rfl⟩, hc3, hr2⟩ := (uOnce 10 (by decide) (by decide) l hl).at hc2
  obtain ⟨_, ob3, ⟨w, hw, rfl⟩, hc4, hr3⟩ := (uPick imX (by decide) (by decide) l hl).at hc3
  have hr' : run EE 37 [.ptr lv t 0] _ = _ := hr
  simp only [imX, List.map_cons, List.map_nil] at hr3
  unfold Mor.enc at hr'
  rw [run_eq EE 20 _ _ Try.func20 (by decide +kernel) rfl (show 1 ≤ _ by decide)]
  dsimp only [Try.f20]
  simp only [go_sem, hr', hr2, hne, setIn_len]
  cases b with
  | true =>
    simp only [go_sem, hr3, hne, setIn_len]
    exact hQ _ _ ⟨⟨m.a, w, m.c⟩, ⟨hm.1, im_le (.inr (.inr (.inr hw))), hm.2.2⟩, rfl⟩ hc4
  | false =>
    simp only [go_sem, hne, setIn_len]
    exact hQ _ _ ⟨m, hm, rfl⟩ hc3
end Go.Ev
