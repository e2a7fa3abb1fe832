/- Lines and programs: the reference's, and whole programs. Morphisms applied and words read: the reference's image, the program's state after a string. Words read, the reference's; right quotients. Left quotients, both. Preimages. Shortest words, the reference's. Shortest words, the program's. -/
import Derived.Test.YtlncmdbipjlfhaaGreatEvV
import Derived.Test.YtlncmdbipjlfhaaGreatEvS
import Derived.Test.YtlncmdbipjlfhaaGreatEvP
import Derived.Test.YtlncmdbipjlfhaaGreatEvT
import Derived.Test.YtlncmdbipjlfhaaGreatEvU
import Derived.Test.YtlncmdbipjlfhaaGreatEvO
import Derived.Test.YtlncmdbipjlfhaaGreatEvQ
set_option linter.unusedVariables false
set_option linter.unusedSimpArgs false
namespace Go.Ev
open Go Go.Proofs
set_option maxRecDepth 10000
set_option maxHeartbeats 4000000

theorem r39 (l : Line) (ht : l.text.size ≤ 1048576) (h1 : l.mor.a.size ≤ 1048576) (h2 : l.mor.b.size ≤ 1048576) (h3 : l.mor.c.size ≤ 1048576) (hr : szT l.regex.enc ≤ 1048576) : run EE 39 [l.enc] [] = some (.bool (lineOk l), []) := by
 have iw := r74 l.text (by omega)
 have im := r76 l.mor h1 h2 h3
 have zr := r75 l.regex
 have cr := r43 l.regex hr
 simp only [Rx.enc_eq] at zr cr
 rw [run_eq EE 39 _ _ Tryz.func39 (by decide +kernel) rfl (show 1 ≤ _ by decide)]
 dsimp only [Tryz.f39]
 have fin : ∀ b, zeroM l.mor = b → (decide (l.mor.a.size = 0) && (decide (l.mor.b.size = 0) && decide (l.mor.c.size = 0))) = b := fun b e => e
 unfold lineOk
 generalize hM : zeroM l.mor = M at fin ⊢
 have fin := fin M rfl
 by_cases k12 : l.kind = 1 ∨ l.kind = 2
 · rw [if_pos k12]
   cases hw : isWord l.text
   · rw [hw] at iw
     rcases k12 with k | k <;> simp only [k, go_sem, toList_nil, fin, iw, Bool.and_false, Bool.false_and]
   · rw [hw] at iw
     by_cases hl : l.text.size ≤ 4
     · have hl' : (l.text.size : Int) ≤ 4 := by omega
       rw [decide_eq_true hl]
       cases M
       · rcases k12 with k | k <;> simp only [k, go_sem, toList_nil, fin, iw, hl', Bool.true_and, Bool.false_and, Bool.and_false]
       · rcases k12 with k | k <;> simp only [k, go_sem, toList_nil, fin, iw, hl', zr, Bool.true_and]
     · have hl' : ¬ (l.text.size : Int) ≤ 4 := by omega
       rcases k12 with k | k <;> simp only [k, go_sem, toList_nil, fin, iw, hl', hl, Bool.true_and, Bool.false_and, decide_false]
 rw [if_neg k12]
 have k1 : (l.kind == 1) = false := by simpa using fun e => k12 (Or.inl e)
 have k2 : (l.kind == 2) = false := by simpa using fun e => k12 (Or.inr e)
 by_cases k3 : l.kind = 3
 · rw [if_pos k3]
   simp only [Mor.enc] at im
   cases ht0 : decide (l.text.size = 0)
   · simp only [k3, go_sem, toList_nil, fin, ht0, Bool.false_and, Bool.and_false]
   · cases hm : isMor l.mor
     · rw [hm] at im
       simp only [k3, go_sem, toList_nil, fin, ht0, im, Bool.true_and, Bool.false_and, Bool.and_false]
     · rw [hm] at im
       simp only [k3, go_sem, toList_nil, fin, ht0, im, zr, Bool.true_and]
 rw [if_neg k3]
 have k3' : (l.kind == 3) = false := by simpa using k3
 by_cases k4 : l.kind = 4
 · rw [if_pos k4]
   change run EE 43 _ [] = some (resO (compV l.regex), []) at cr
   generalize compV l.regex = c at cr ⊢
   cases c with
   | none =>
     simp only [resO] at cr
     cases ht0 : decide (l.text.size = 0)
     · simp only [k4, go_sem, toList_nil, fin, ht0, cr, Option.isSome, Bool.false_and, Bool.and_false]
     · cases M <;> simp only [k4, go_sem, toList_nil, fin, ht0, cr, Option.isSome, Bool.true_and, Bool.false_and, Bool.and_false]
   | some e =>
     simp only [resO, rep_enc] at cr
     cases ht0 : decide (l.text.size = 0)
     · simp only [k4, go_sem, toList_nil, fin, ht0, cr, Option.isSome, Bool.false_and, Bool.and_false]
     · cases M <;> simp only [k4, go_sem, toList_nil, fin, ht0, cr, Option.isSome, Bool.true_and, Bool.false_and, Bool.and_true]
 rw [if_neg k4]
 have k4' : (l.kind == 4) = false := by simpa using k4
 simp only [go_sem, toList_nil, fin, k1, k2, k3', k4']
theorem r17 (ls : List Line) (hl : ls.length ≤ 1048576) (h : ∀ l ∈ ls, lineSz l) : run EE 17 [.agg [.slc false 8 (ls.map Line.enc)]] [] = some (.bool (progOk ls), []) := by
 unfold progOk
 rw [run_eq EE 17 _ _ Tryz.func17 (by decide +kernel) rfl (show 1 ≤ _ by decide)]
 dsimp only [Tryz.f17]
 simp only [go_sem]
 refine iter_inv (fun i : Nat => i ≤ ls.length) (fun i => { t := upd (upd e0 3 (.int .i64 i)) 1 (.ptr 0 1 0), b := upd n0 1 (some (Ob.box [.slc false 8 (ls.map Line.enc)])), o := [], r := #[ResultVar.tmp 2], f := 17, n := 22 }) (fun i => some (.bool (decide (ls.length ≤ 8) && (ls.drop i).all lineOk), [])) (fun i => ls.length - i) ?_ 0 (Nat.zero_le _)
 intro i hi ih
 by_cases hh : i < ls.length
 rotate_left
 · have k1 : ¬ (i : Int) < ls.length := by omega
   rw [List.drop_eq_nil_of_le (by omega), List.all_nil, Bool.and_true]
   by_cases k : ls.length ≤ 8
   · have k' : (ls.length : Int) ≤ 8 := by omega
     simp only [go_sem, k1, k, k', decide_true]
   · have k' : ¬ (ls.length : Int) ≤ 8 := by omega
     simp only [go_sem, k1, k, k', decide_false]
 have k1 : (i : Int) < ls.length := by omega
 have wi := wrap_nat (n := i) (by omega)
 have ihn := ih (i + 1) (by omega) (by omega)
 have hx := h _ (List.getElem_mem hh)
 have gd := r39 ls[i] hx.1 hx.2.1 hx.2.2.1 hx.2.2.2.1 hx.2.2.2.2
 have gl : ∀ v : V, (ls.map Line.enc).getD i v = ls[i].enc := fun v => getD_map hh v
 rw [List.drop_eq_getElem_cons hh, List.all_cons]
 generalize lineOk ls[i] = A at gd ⊢
 generalize ls[i] = l at gd gl
 simp only [Line.enc] at gd gl
 cases A
 · simp only [go_sem, k1, gl, gd, Bool.not_false, Bool.false_and, Bool.and_false]
 · rw [Bool.true_and]
   simp only [go_sem, k1, gl, gd, wi, Bool.not_true]
   exact ihn
end Go.Ev
namespace Go.Ev
open Go Go.Proofs
set_option maxRecDepth 10000
set_option maxHeartbeats 4000000

theorem imgM_size {m : Mor} (h1 : m.a.size ≤ 1048576) (h2 : m.b.size ≤ 1048576) (h3 : m.c.size ≤ 1048576) (s : ByteArray) {i : Nat} (h : i < s.size) : (imgM m s i).size ≤ 1048576 := by
 unfold imgM
 split
 · exact h1
 split
 · exact h2
 split
 · exact h3
 rw [one_size s i h]; decide
theorem r81 (m : Mor) (s : ByteArray) (hs : s.size ≤ 9223372036854775806) (h1 : m.a.size ≤ 1048576) (h2 : m.b.size ≤ 1048576) (h3 : m.c.size ≤ 1048576) : run EE 81 [m.enc, .str s] [] = some (.str (appM m s), []) := by
 rw [run_eq EE 81 _ _ Tryz.func81 (by decide +kernel) rfl (show 2 ≤ _ by decide)]
 dsimp only [Tryz.f81]
 simp only [go_sem]
 refine iter_inv (fun x : Nat × ByteArray => x.2.size ≤ 1048576) (fun x => { t := upd (upd (upd (upd e0 6 (.int .i64 x.1)) 5 (.str x.2)) 2 (.ptr 0 2 0)) 1 (.str s), b := upd n0 2 (some (Ob.box [.str m.a, .str m.b, .str m.c])), o := [], r := #[ResultVar.tmp 4], f := 81, n := 45 }) (fun x => some (.str (repl (imgM m s) s x.1 x.2), [])) (fun x => s.size - x.1) ?_ (0, ⟨#[]⟩) (by decide)
 rintro ⟨i, out⟩ ho ih
 dsimp only at ho ⊢
 by_cases h : i < s.size
 rotate_left
 · have k1 : ¬ (i : Int) < s.size := by omega
   rw [repl_end h]
   simp only [go_sem, k1]
 have k1 : (i : Int) < s.size := by omega
 have h2' : ((i + 1 : Nat) : Int) ≤ s.size := by omega
 have h3' : (i : Int) ≤ ((i + 1 : Nat) : Int) := by omega
 have w := wrap_nat (n := i) (by omega)
 have hb := imgM_size h1 h2 h3 s h
 have a2 : ¬ ((out.size + (imgM m s i).size : Nat) : Int) > 9223372036854775807 := by omega
 have eo : s.extract i (i + 1) = one s i := rfl
 rw [repl_next h]
 have fin : ∀ (b : ByteArray), imgM m s i = b → ∀ (k : Nat), (k : Int) = ((out ++ b).size : Nat) → True := fun _ _ _ _ => trivial
 have ihn := ih (i + 1, out ++ imgM m s i)
 dsimp only at ihn
 generalize hX : imgM m s i = X at hb a2 ihn ⊢
 unfold imgM at hX
 by_cases c1 : bt s i = 97
 · rw [if_pos c1] at hX
   subst hX
   simp only [go_sem, k1, c1, a2]
   refine condL_dec (fun z => ?_) (fun z => ?_)
   · rw [if_pos (by omega)]
     simp only [go_sem]
   · rw [if_neg (by omega)]
     simp only [go_sem, w]
     exact ihn (by omega) (by omega)
 rw [if_neg c1] at hX
 by_cases c2 : bt s i = 98
 · rw [if_pos c2] at hX
   subst hX
   simp only [go_sem, k1, c1, c2, a2, Int.reduceEq, Int.reduceBEq]
   refine condL_dec (fun z => ?_) (fun z => ?_)
   · rw [if_pos (by omega)]
     simp only [go_sem]
   · rw [if_neg (by omega)]
     simp only [go_sem, w]
     exact ihn (by omega) (by omega)
 rw [if_neg c2] at hX
 by_cases c3 : bt s i = 99
 · rw [if_pos c3] at hX
   subst hX
   simp only [go_sem, k1, c1, c2, c3, a2, Int.reduceEq, Int.reduceBEq]
   refine condL_dec (fun z => ?_) (fun z => ?_)
   · rw [if_pos (by omega)]
     simp only [go_sem]
   · rw [if_neg (by omega)]
     simp only [go_sem, w]
     exact ihn (by omega) (by omega)
 rw [if_neg c3] at hX
 subst hX
 have d1 : (bt s i == 97) = false := by simpa using c1
 have d2 : (bt s i == 98) = false := by simpa using c2
 have d3 : (bt s i == 99) = false := by simpa using c3
 simp only [go_sem, k1, d1, d2, d3, w, h2', h3', eo, a2]
 refine condL_dec (fun z => ?_) (fun z => ?_)
 · rw [if_pos (by omega)]
   simp only [go_sem]
 · rw [if_neg (by omega)]
   simp only [go_sem, w]
   exact ihn (by omega) (by omega)
theorem ltr_of {c : Int} (h : c = 97 ∨ c = 98 ∨ c = 99) (t : Nat × Nat × Nat) : (c = 97 ∧ ltr c = 0 ∧ nxL t c = t.1) ∨ (c = 98 ∧ ltr c = 1 ∧ nxL t c = t.2.1) ∨ (c = 99 ∧ ltr c = 2 ∧ nxL t c = t.2.2) := by
 rcases h with rfl | rfl | rfl
 · exact Or.inl ⟨rfl, rfl, rfl⟩
 · exact Or.inr (Or.inl ⟨rfl, rfl, rfl⟩)
 · exact Or.inr (Or.inr ⟨rfl, rfl, rfl⟩)
theorem r53 (d : DN) (hd : d.ok) (s : ByteArray) (hs : s.size ≤ 9223372036854775806) (hl : Ltrs s) (q : Nat) (hq : q < d.accept.length) : run EE 53 [d.enc, .int .i64 q, .str s] [] = some (.int .i64 (walk d s q 0), []) := by
 rw [run_eq EE 53 _ _ Tryz.func53 (by decide +kernel) rfl (show 3 ≤ _ by decide)]
 dsimp only [Tryz.f53]
 simp only [go_sem]
 refine iter_inv (fun x : Nat × Nat => x.1 < d.accept.length) (fun x => { t := upd (upd (upd (upd e0 7 (.int .i64 x.2)) 3 (.ptr 0 3 0)) 2 (.str s)) 1 (.int .i64 x.1), b := upd n0 3 (some (Ob.box [.slc false 1 (d.accept.map B), .slc false 1 (d.next.map NT)])), o := [], r := #[ResultVar.tmp 6], f := 53, n := 26 }) (fun x => some (.int .i64 (walk d s x.1 x.2), [])) (fun x => s.size - x.2) ?_ (q, 0) hq
 rintro ⟨p, i⟩ hp ih
 dsimp only at hp ⊢
 by_cases h : i < s.size
 rotate_left
 · have k1 : ¬ (i : Int) < s.size := by omega
   rw [walk_end h]
   simp only [go_sem, k1]
 have k1 : (i : Int) < s.size := by omega
 have w := wrap_nat (n := i) (by omega)
 have p1 : (p : Int) < d.next.length := by rw [hd.1]; omega
 have g1 : ∀ v : V, (d.next.map NT).getD p v = NT (d.nx p) := fun v => getD_NT (by rw [hd.1]; exact hp) v
 have li := r97 (bt s i) (bt_nonneg s i) (bt_lt s i)
 have ihn := ih (nxL (d.nx p) (bt s i), i + 1) (nxL_lt hd hp _) (by dsimp only; omega)
 rw [walk_next h]
 dsimp only at ihn
 generalize hA : d.nx p = A at g1 ihn ⊢
 simp only [go_sem, k1]
 rw [q_drawn]
 rotate_left
 · kernel_rfl
 rcases ltr_of (isLtr_abc (hl i h)) A with ⟨c, e, n⟩ | ⟨c, e, n⟩ | ⟨c, e, n⟩
 all_goals
   rw [e] at li
   rw [n] at ihn ⊢
   simp only [go_sem, k1, li, p1, g1, w]
   exact ihn
end Go.Ev
namespace Go.Ev
open Go Go.Proofs
set_option maxRecDepth 10000
set_option maxHeartbeats 4000000

theorem r77 (d : DN) (hv : Val d) (s : ByteArray) (hs : s.size ≤ 1048576) (hw : isWord s = true) (q : Nat) (hq : q < d.accept.length) : run EE 77 [d.enc, .int .i64 q, .str s] [] = some (.tup [.int .i64 (walk d s q 0), .bool true], []) := by
 have hd := hv.ok
 have hl := ltrs_word hw
 have hle := hv.le
 have hps := hv.pos
 have iv := r67 d.dfa (by show d.accept.length ≤ _; omega) (by show (d.next.map _).length ≤ _; rw [List.length_map, hd.1]; omega) (by
   intro r hr
   obtain ⟨t, _, rfl⟩ := List.mem_map.1 hr
   show 3 ≤ 1048576; decide)
 rw [DN.dfa_enc, hv.valid] at iv
 have iw := r74 s (by omega)
 rw [hw] at iw
 have ii := r104 (q : Int) 0 ((d.accept.length : Int) - 1)
 have w0 : IntKind.i64.wrap ((d.accept.length : Int) - 1) = (d.accept.length : Int) - 1 := wrap_in (by omega) (by omega)
 have c0 : (decide ((0 : Int) ≤ q) && decide ((q : Int) ≤ (d.accept.length : Int) - 1)) = true := by
   rw [Bool.and_eq_true, decide_eq_true_eq, decide_eq_true_eq]; omega
 rw [c0] at ii
 simp only [DN.enc] at iv
 rw [run_eq EE 77 _ _ Tryz.func77 (by decide +kernel) rfl (show 3 ≤ _ by decide)]
 dsimp only [Tryz.f77]
 simp only [go_sem, iv, iw, ii, w0, Bool.not_true]
 refine iter_inv (fun x : Nat × Nat => x.1 < d.accept.length) (fun x => { t := upd (upd (upd (upd e0 9 (.int .i64 x.2)) 8 (.int .i64 x.1)) 3 (.ptr 0 3 0)) 2 (.str s), b := upd n0 3 (some (Ob.box [.slc false 1 (d.accept.map B), .slc false 1 (d.next.map NT)])), o := [], r := #[ResultVar.tmp 6, ResultVar.tmp 7], f := 77, n := 46 }) (fun x => some (.tup [.int .i64 (walk d s x.1 x.2), .bool true], [])) (fun x => s.size - x.2) ?_ (q, 0) hq
 rintro ⟨p, i⟩ hp ih
 dsimp only at hp ⊢
 by_cases h : i < s.size
 rotate_left
 · have k1 : ¬ (i : Int) < s.size := by omega
   rw [walk_end h]
   simp only [go_sem, k1]
 have k1 : (i : Int) < s.size := by omega
 have w := wrap_nat (n := i) (by omega)
 have p1 : (p : Int) < d.next.length := by rw [hd.1]; omega
 have g1 : ∀ v : V, (d.next.map NT).getD p v = NT (d.nx p) := fun v => getD_NT (by rw [hd.1]; exact hp) v
 have li := r106 (bt s i)
 have ihn := ih (nxL (d.nx p) (bt s i), i + 1) (nxL_lt hd hp _) (by dsimp only; omega)
 rw [walk_next h]
 dsimp only at ihn
 generalize hA : d.nx p = A at g1 ihn ⊢
 simp only [go_sem, k1]
 rw [q_drawn]
 rotate_left
 · kernel_rfl
 rcases ltr_of (isLtr_abc (hl i h)) A with ⟨c, e, n⟩ | ⟨c, e, n⟩ | ⟨c, e, n⟩
 all_goals
   rw [e] at li
   rw [n] at ihn ⊢
   simp only [go_sem, k1, li, p1, g1, w]
   exact ihn
theorem uqL_m {α : Type} (f : α → V) {l : List α} (h : l ≠ []) : uqL (l.map f) = .uq 1 (l.map f) := uqL_map f h
theorem r80 (d : DN) (hv : Val d) : run EE 80 [d.enc] [] = some (d.encD, []) := by
 have hd := hv.ok
 have hle := hv.le
 have hps := hv.pos
 have hn := hd.1
 have a1 : d.accept.length * 1 ≤ 140737488355328 := by omega
 unfold DN.encD
 rw [run_eq EE 80 _ _ Tryz.func80 (by decide +kernel) rfl (show 1 ≤ _ by decide)]
 dsimp only [Tryz.f80]
 simp only [go_sem, a1]
 refine iter_inv (fun i : Nat => i ≤ d.next.length) (fun i => { t := upd (upd (upd (upd e0 4 (.int .i64 i)) 3 (.ptr 0 3 0)) 2 (.ptr 0 2 0)) 1 (.ptr 0 1 0), b := upd (upd (upd n0 3 (some (Ob.box [.uq 1 (d.accept.map B), uqL ((d.next.take i).map NU)]))) 2 (some (Ob.box [.slc true 1 [], .slc true 1 []]))) 1 (some (Ob.box [.slc false 1 (d.accept.map B), .slc false 1 (d.next.map NT)])), o := [], r := #[ResultVar.cell 2 29], f := 80, n := 30 }) (fun _ => some (.agg [.uq 1 (d.accept.map B), .uq 1 (d.next.map NU)], [])) (fun i => d.next.length - i) ?_ 0 (Nat.zero_le _)
 intro i hi ih
 by_cases h : i < d.next.length
 rotate_left
 · have k1 : ¬ (i : Int) < d.next.length := by omega
   rw [List.take_of_length_le (by omega), uqL_m _ (fun e => by rw [e] at hn; simp at hn; omega)]
   simp only [go_sem, k1]
 have k1 : (i : Int) < d.next.length := by omega
 have w := wrap_nat (n := i) (by omega)
 have ihn := ih (i + 1) (by omega) (by omega)
 rw [uqL_m _ (fun e => by have := congrArg List.length e; rw [List.length_take, List.length_nil] at this; omega), take_snoc h, List.map_append, List.map_cons, List.map_nil] at ihn
 have hg : ∀ v : V, (d.next.map NT).getD i v = NT d.next[i] := fun v => getD_map h v
 generalize d.next[i] = t at hg ihn
 have a2 : (min i d.next.length + 1) * 24 ≤ 140737488355328 := by omega
 simp only [go_sem, k1]
 rw [q_drawn]
 rotate_left
 · kernel_rfl
 by_cases hi0 : i = 0
 · have ht0 : d.next.take i = [] := by rw [hi0]; rfl
   have ez2 : uqL (([] : List (Nat × Nat × Nat)).map NU) = .slc true 1 [] := rfl
   have m3 : ((0 : Nat) + 1) * 24 ≤ 140737488355328 := by decide
   rw [ht0] at ihn ⊢
   rw [ez2]
   simp only [List.map_nil, List.nil_append] at ihn
   simp only [go_sem, still, k1, hg, a2, m3, eq_self, w]
   exact ihn
 · have hti : d.next.take i ≠ [] := fun e => by
     have := congrArg List.length e
     rw [List.length_take, List.length_nil] at this
     omega
   rw [uqL_m _ hti]
   simp only [go_sem, still, k1, hg, a2, eq_self, w]
   exact ihn
section
attribute [-go_sem] uMakes uMakes_acc peekC_aref
theorem r41 (x : Dfa) (s : ByteArray) (h1 : x.accept.length ≤ 1048576) (h2 : x.next.length ≤ 1048576) (h3 : ∀ r ∈ x.next, r.length ≤ 1048576) (hs : s.size ≤ 1048576) : run EE 41 [x.enc, .str s] [] = some (rqR x s, []) := by
 have iv := r67 x h1 h2 h3
 have iw := r74 s (by omega)
 simp only [Dfa.enc] at iv
 unfold rqR
 rw [run_eq EE 41 _ _ Tryz.func41 (by decide +kernel) rfl (show 2 ≤ _ by decide)]
 dsimp only [Tryz.f41]
 cases hV : validD x
 · rw [hV] at iv
   rw [if_neg (by simp)]
   simp only [go_sem, iv, Bool.not_false]
 cases hw : isWord s
 · rw [hV] at iv
   rw [hw] at iw
   rw [if_neg (by simp)]
   simp only [go_sem, iv, iw, Bool.not_true, Bool.not_false]
 rw [hV] at iv
 rw [hw] at iw
 rw [if_pos ⟨rfl, rfl⟩]
 obtain ⟨hx, hv⟩ := validD_dn hV
 generalize x.dn = d at hx hv ⊢
 subst hx
 have hle := hv.le
 have hps := hv.pos
 have e1 : d.dfa.accept = d.accept := rfl
 have e2 : d.dfa.next.map IL = d.next.map NT := by unfold DN.dfa; rw [List.map_map]; rfl
 rw [e1, e2] at iv
 rw [DN.dfa_enc]
 have cp := r80 d hv
 simp only [DN.enc, DN.encD] at cp
 have hA : d.accept ≠ [] := fun e => by rw [e] at hps; exact absurd hps (by decide)
 have fA : (d.accept.length = 0) = False := eq_false (by omega)
 have ln : d.dfa.next.length = d.accept.length := by show (d.next.map _).length = _; rw [List.length_map, hv.ok.1]
 have hN : d.dfa.next.map List.length ≠ [] := fun e => by have := congrArg List.length e; rw [List.length_map, ln, List.length_nil] at this; omega
 have hN' : d.dfa.next ≠ [] := fun e => by rw [e] at ln; exact absurd ln (by simp only [List.length_nil]; omega)
 have eU : d.dfa.next.map UR = d.next.map NU := by show (d.next.map _).map UR = _; rw [List.map_map]; rfl
 simp only [go_sem, iv, iw, cp, Bool.not_true]
 generalize hb0 : (upd (upd (upd n0 2 _) 4 _) 6 _ : Nat → Option Ob) = b0
 have w0 : NoM b0 430 := hb0 ▸ (((NoM.n0 _).st (by decide) _).st (by decide) _).st (by decide) _
 have f0 : ∀ t, famD [431] t = true → b0 t = none := fun t ht => by
   rw [← hb0, upd_fam (by decide) _ ht, upd_fam (by decide) _ ht, upd_fam (by decide) _ ht]
   rfl
 have q2 := congrFun hb0.symm 2
 have q4 := congrFun hb0.symm 4
 have q6 := congrFun hb0.symm 6
 simp only [go_sem] at q2 q4 q6
 clear hb0
 obtain ⟨b1, mk1, x1, o1, ra⟩ := made2 b0 430 d.accept d.dfa.next w0 f0 (by decide)
 simp only [rowT, fA, if_false, ln, eU] at mk1
 rw [mk1]
 clear mk1
 replace q2 := o1.lo (by decide) q2
 replace q4 := o1.lo (by decide) q4
 replace q6 := o1.lo (by decide) q6
 have q430 := x1.acc hA
 have q431 := x1.dir hN'
 clear w0 f0 o1
 have fo : ∀ t o r f n H c, FamOk ⟨t, upd b1 6 c, o, r, f, n⟩ H [431] := fun t o r f n H c => (ra.st (by decide) c).famOk t o r f n H
 have fe : ∀ c g, famB [431] (upd b1 6 c) g = famB [431] (rowsB 431 d.dfa.next 0 n0) g := fun c g => (ra.st (by decide) c).fam g
 have hm0 : d.accept.map B = (mixA d s 0).map B := by rw [mixA_0]
 rw [hm0] at q430
 simp only [go_sem, q2, q4, q6, q430, q431, fo, fe]
 refine (iter_inv (fun i : Nat => i ≤ d.accept.length) (fun i => { t := upd (upd (upd (upd (upd e0 7 (.int .i64 i)) 6 (.ptr 0 6 0)) 4 (.ptr 0 4 0)) 2 (.ptr 0 2 0)) 1 (.str s), b := famB [431] (rowsB 431 d.dfa.next 0 n0) (upd (upd (upd (upd (upd n0 431 (some (Ob.dir 1 (refsR 0 431 (d.dfa.next.map List.length))))) 430 (some (Ob.arr false 1 ((mixA d s i).map B)))) 6 (some (Ob.box [.aref 0 430 d.accept.length, .aref 0 431 d.accept.length]))) 4 (some (Ob.box [.slc true 1 [], .slc true 1 []]))) 2 (some (Ob.box [.slc false 1 (d.accept.map B), .slc false 1 (d.next.map NT)]))), o := [], r := #[ResultVar.cell 4 29, ResultVar.tmp 5], f := 41, n := 46 }) (fun _ => some (.tup [(quotS (rqD d s) 0).encD, .bool true], [])) (fun i => d.accept.length - i) ?_ 0 (Nat.zero_le _))
 intro i hi ih
 by_cases h : i < d.accept.length
 rotate_left
 · have k1 : ¬ (i : Int) < d.accept.length := by omega
   obtain rfl : i = d.accept.length := by omega
   have lm := r78 (rqD d s) (rqD_ok hv.ok s) (by rw [rqD_len]; omega) (by rw [rqD_len]; omega)
   rw [minS_S (rqD_ok hv.ok s) (by rw [rqD_len]; omega)] at lm
   have er : (rqD d s).next = d.next := rfl
   simp only [DN.enc] at lm
   rw [er, ← mixA_all] at lm
   generalize quotS (rqD d s) 0 = Q at *
   simp only [DN.encD] at lm ⊢
   have hml := mixA_len d s d.accept.length
   have pk := fun g (ha : g 430 = some (.arr false 1 ((mixA d s d.accept.length).map B))) (hd : g 431 = some (.dir 1 (refsR 0 431 (d.dfa.next.map List.length)))) t r f n => peeked (dfaM_fam (u := 430) (A := mixA d s d.accept.length) (rows := d.dfa.next) (g := g) (by decide) (fun _ => ha) (fun _ => hd)) t r f n
   have px1 := fun g ha hd t r f n => (pk g ha hd t r f n).1
   have px2 := fun g ha hd t r f n => (pk g ha hd t r f n).2
   simp only [rowR, hml, fA, ln, if_false, e2] at px1 px2
   simp only [go_sem, k1, hml, px1, px2, lm]
 have k1 : (i : Int) < d.accept.length := by omega
 have w := wrap_nat (n := i) (by omega)
 have ihn := ih (i + 1) (by omega) (by omega)
 rw [← mixA_set d s h] at ihn
 have rd := r77 d hv s hs hw i h
 simp only [DN.enc] at rd
 have hwk := walk_lt hv.ok s _ i 0 (Nat.le_refl _) h
 have hga : ∀ v : V, (d.accept.map B).getD (walk d s i 0) v = B (rqA d s i) := fun v => getD_B hwk v
 have kw : ((walk d s i 0 : Nat) : Int) < d.accept.length := by omega
 have hml := mixA_len d s i
 simp only [go_sem, k1, rd]
 rw [q_drawn]
 rotate_left
 · kernel_rfl
 simp only [go_sem, still, k1, h, kw, hga, hml, eq_self, w]
 exact ihn
end
theorem r23 (x : Dfa) (s : ByteArray) (h1 : x.accept.length ≤ 1048576) (h2 : x.next.length ≤ 1048576) (h3 : ∀ r ∈ x.next, r.length ≤ 1048576) (hs : s.size ≤ 1048576) : run EE 23 [x.enc, .str s] [] = some (rqR x s, []) := by
 have iv := r50 x h1 h2 h3
 have iw := r51 s (by omega)
 simp only [Dfa.enc] at iv
 unfold rqR
 rw [run_eq EE 23 _ _ Tryz.func23 (by decide +kernel) rfl (show 2 ≤ _ by decide)]
 dsimp only [Tryz.f23]
 cases hV : validD x
 · rw [hV] at iv
   rw [if_neg (by simp)]
   simp only [go_sem, iv, Bool.not_false]
 cases hw : isWord s
 · rw [hV] at iv
   rw [hw] at iw
   rw [if_neg (by simp)]
   simp only [go_sem, iv, iw, Bool.not_true, Bool.not_false]
 rw [hV] at iv
 rw [hw] at iw
 rw [if_pos ⟨rfl, rfl⟩]
 obtain ⟨hx, hv⟩ := validD_dn hV
 generalize x.dn = d at hx hv ⊢
 subst hx
 have hle := hv.le
 have hps := hv.pos
 have hl := ltrs_word hw
 have e1 : d.dfa.accept = d.accept := rfl
 have e2 : d.dfa.next.map IL = d.next.map NT := by unfold DN.dfa; rw [List.map_map]; rfl
 rw [e1, e2] at iv
 rw [DN.dfa_enc]
 simp only [go_sem, iv, iw, Bool.not_true]
 refine (iter_inv (fun i : Nat => i ≤ d.accept.length) (fun i => { t := upd (upd (upd (upd (upd (upd e0 23 (.int .i64 i)) 22 (.int .i64 d.accept.length)) 6 (.ptr 0 6 0)) 4 (.ptr 0 4 0)) 2 (.ptr 0 2 0)) 1 (.str s), b := upd (upd (upd n0 6 (some (Ob.box [.slc true 1 (((List.range i).map (rqA d s)).map B), .slc false 1 (d.next.map NT)]))) 4 (some (Ob.box [.slc true 1 [], .slc true 1 []]))) 2 (some (Ob.box [.slc false 1 (d.accept.map B), .slc false 1 (d.next.map NT)])), o := [], r := #[ResultVar.cell 4 29, ResultVar.tmp 5], f := 23, n := 42 }) (fun _ => some (.tup [(quotS (rqD d s) 0).encD, .bool true], [])) (fun i => d.accept.length - i) ?_ 0 (Nat.zero_le _))
 intro i hi ih
 by_cases h : i < d.accept.length
 rotate_left
 · have k1 : ¬ (i : Int) < d.accept.length := by omega
   obtain rfl : i = d.accept.length := by omega
   have lm := r52 (rqD d s) (rqD_ok hv.ok s) (by rw [rqD_len]; omega) 0 (by rw [rqD_len]; omega)
   have er : (rqD d s).next = d.next := rfl
   have ea : (rqD d s).accept = (List.range d.accept.length).map (rqA d s) := rfl
   have z0 : ((0 : Nat) : Int) = 0 := rfl
   simp only [DN.enc] at lm
   rw [er, ea, z0] at lm
   generalize quotS (rqD d s) 0 = Q at *
   simp only [DN.encD] at lm ⊢
   simp only [go_sem, k1, lm]
 have k1 : (i : Int) < d.accept.length := by omega
 have w := wrap_nat (n := i) (by omega)
 have ihn := ih (i + 1) (by omega) (by omega)
 rw [List.range_succ, List.map_append, List.map_append, List.map_cons, List.map_nil, List.map_cons, List.map_nil] at ihn
 have rd := r53 d hv.ok s (by omega) hl i h
 simp only [DN.enc] at rd
 have hwk := walk_lt hv.ok s _ i 0 (Nat.le_refl _) h
 have hga : ∀ v : V, (d.accept.map B).getD (walk d s i 0) v = B (rqA d s i) := fun v => getD_B hwk v
 have kw : ((walk d s i 0 : Nat) : Int) < d.accept.length := by omega
 have a2 : ((List.range i).length + 1) * 1 ≤ 140737488355328 := by rw [List.length_range]; omega
 simp only [go_sem, k1, w]
 rw [q_drawn]
 rotate_left
 · kernel_rfl
 simp only [go_sem, still, rd, h, kw, hga, a2, eq_self, w]
 exact ihn
end Go.Ev
namespace Go.Ev
open Go Go.Proofs
set_option maxRecDepth 10000
set_option maxHeartbeats 4000000

theorem rn77 (x : Dfa) (s : ByteArray) (h1 : x.accept.length ≤ 1048576) (h2 : x.next.length ≤ 1048576) (h3 : ∀ r ∈ x.next, r.length ≤ 1048576) (hs : s.size ≤ 1048576) (hv : ¬ (validD x = true ∧ isWord s = true)) (q : Nat) : run EE 77 [x.enc, .int .i64 q, .str s] [] = some (.tup [.int .i64 0, .bool false], []) := by
 have iv := r67 x h1 h2 h3
 have iw := r74 s (by omega)
 have ii := r104 (q : Int) 0 ((x.accept.length : Int) - 1)
 have w0 : IntKind.i64.wrap ((x.accept.length : Int) - 1) = (x.accept.length : Int) - 1 := wrap_in (by omega) (by omega)
 simp only [Dfa.enc] at iv
 rw [run_eq EE 77 _ _ Tryz.func77 (by decide +kernel) rfl (show 3 ≤ _ by decide)]
 dsimp only [Tryz.f77]
 cases hV : validD x
 · rw [hV] at iv
   simp only [go_sem, iv, Bool.not_false]
 rw [hV] at iv
 have hw : isWord s = false := by
   cases h : isWord s
   · rfl
   · exact absurd ⟨hV, h⟩ hv
 rw [hw] at iw
 generalize (decide ((0 : Int) ≤ q) && decide ((q : Int) ≤ (x.accept.length : Int) - 1)) = c at ii
 cases c
 · simp only [go_sem, iv, iw, ii, w0, Bool.not_true, Bool.not_false]
 · simp only [go_sem, iv, iw, ii, w0, Bool.not_true, Bool.not_false]
theorem r109 (q i : Nat) : run EE 109 [.int .i64 q, .int .i64 i] [] = some (.int .i64 (sw q i), []) := by
 rw [run_eq EE 109 _ _ Tryz.func109 (by decide +kernel) rfl (show 2 ≤ _ by decide)]
 dsimp only [Tryz.f109]
 unfold sw
 by_cases h : i = 0
 · subst h
   rw [if_pos rfl]
   have c0 : ((0 : Nat) : Int) = 0 := rfl
   simp only [go_sem, c0]
 have h1 : ((i : Int) == 0) = false := by simpa using h
 rw [if_neg h]
 by_cases hq : i = q
 · subst hq
   rw [if_pos rfl]
   have c0 : ((0 : Nat) : Int) = 0 := rfl
   simp only [go_sem, h1, c0, beq_self_eq_true]
 · have h2 : ((i : Int) == (q : Int)) = false := by rw [nat_beq]; simpa using hq
   rw [if_neg hq]
   simp only [go_sem, h1, h2]
theorem r79 (d : DN) (hv : Val d) (q : Nat) (hq : q < d.accept.length) : run EE 79 [d.enc, .int .i64 q] [] = some ((fromD d q).enc, []) := by
 have hd := hv.ok
 have hle := hv.le
 have hn := hd.1
 generalize hRES : (some ((fromD d q).enc, ([] : List (Nat → Option Ob)))) = RES
 rw [run_eq EE 79 _ _ Tryz.func79 (by decide +kernel) rfl (show 2 ≤ _ by decide)]
 dsimp only [Tryz.f79]
 simp only [go_sem]
 refine iter_inv (fun i : Nat => i ≤ d.accept.length) (fun i => { t := upd (upd (upd (upd (upd e0 6 (.int .i64 i)) 5 (.ptr 0 5 0)) 4 (.ptr 0 4 0)) 2 (.ptr 0 2 0)) 1 (.int .i64 q), b := upd (upd (upd n0 5 (some (Ob.box [.slc true 1 (((List.range i).map fun i => accN d (sw q i)).map B), .slc true 1 (((List.range i).map fun i => sw3 q (d.nx (sw q i))).map NT)]))) 4 (some (Ob.box [.slc true 1 [], .slc true 1 []]))) 2 (some (Ob.box [.slc false 1 (d.accept.map B), .slc false 1 (d.next.map NT)])), o := [], r := #[ResultVar.cell 4 29], f := 79, n := 56 }) (fun _ => RES) (fun i => d.accept.length - i) ?_ 0 (Nat.zero_le _)
 intro i hi ih
 by_cases h : i < d.accept.length
 rotate_left
 · have k1 : ¬ (i : Int) < d.accept.length := by omega
   obtain rfl : i = d.accept.length := by omega
   rw [← hRES]
   simp only [go_sem, k1]
   rfl
 have k1 : (i : Int) < d.accept.length := by omega
 have w := wrap_nat (n := i) (by omega)
 have ihn := ih (i + 1) (by omega) (by omega)
 clear ih
 rw [List.range_succ, List.map_append, List.map_append, List.map_cons, List.map_nil, List.map_cons, List.map_nil, List.map_append, List.map_append, List.map_cons, List.map_nil, List.map_cons, List.map_nil] at ihn
 have hs := sw_lt hq h
 have s1 := r109 q i
 have hga : ∀ v : V, (d.accept.map B).getD (sw q i) v = B (accN d (sw q i)) := fun v => getD_B hs v
 have hgn : ∀ v : V, (d.next.map NT).getD (sw q i) v = NT (d.nx (sw q i)) := fun v => getD_NT (by omega) v
 have ka : ((sw q i : Nat) : Int) < d.accept.length := by omega
 have kn : ((sw q i : Nat) : Int) < d.next.length := by omega
 have hr : (List.range i).length = i := List.length_range
 have hla : ((List.range i).map fun i => accN d (sw q i)).length = i := by rw [List.length_map, hr]
 have hln : ((List.range i).map fun i => sw3 q (d.nx (sw q i))).length = i := by rw [List.length_map, hr]
 generalize (List.range i).map (fun i => accN d (sw q i)) = LA at *
 generalize (List.range i).map (fun i => sw3 q (d.nx (sw q i))) = LN at *
 generalize accN d (sw q i) = ac at *
 generalize d.nx (sw q i) = tt at *
 simp only [go_sem, k1]
 refine iter_inv (fun j : Nat => j ≤ 3) (fun j => { t := upd (upd (upd (upd (upd (upd (upd e0 8 (.int .i64 j)) 7 (.slc true 1 (((l3 (sw3 q tt)).take j).map IN))) 6 (.int .i64 i)) 5 (.ptr 0 5 0)) 4 (.ptr 0 4 0)) 2 (.ptr 0 2 0)) 1 (.int .i64 q), b := upd (upd (upd n0 5 (some (Ob.box [.slc true 1 (LA.map B), .slc true 1 (LN.map NT)]))) 4 (some (Ob.box [.slc true 1 [], .slc true 1 []]))) 2 (some (Ob.box [.slc false 1 (d.accept.map B), .slc false 1 (d.next.map NT)])), o := [], r := #[ResultVar.cell 4 29], f := 79, n := 56 }) (fun _ => RES) (fun j => 3 - j) ?_ 0 (Nat.zero_le _)
 intro j hj ihj
 by_cases h' : j < 3
 rotate_left
 · obtain rfl : j = 3 := by omega
   have k3 : ¬ ((3 : Nat) : Int) < 3 := by omega
   have et : ((l3 (sw3 q tt)).take 3).map IN = [.int .i64 (sw3 q tt).1, .int .i64 (sw3 q tt).2.1, .int .i64 (sw3 q tt).2.2] := rfl
   have a1 : (LA.length + 1) * 1 ≤ 140737488355328 := by omega
   have a2 : (LN.length + 1) * 24 ≤ 140737488355328 := by omega
   rw [et]
   simp only [go_sem, k3]
   rw [q_drawn]
   rotate_left
   · kernel_rfl
   simp only [go_sem, still, s1, ka, hga, a1, a2, eq_self, w]
   exact ihn
 have k2 : (j : Int) < 3 := by omega
 have k3 : (j : Int) < (l3 tt).length := by rw [l3_len]; omega
 have wj := wrap_nat (n := j) (by omega)
 have hg3 : ∀ v : V, ((l3 tt).map IN).getD j v = IN (l3 tt)[j] := fun v => getD_map (by rw [l3_len]; exact h') v
 have hl3 : (l3 tt).map IN = [.int .i64 tt.1, .int .i64 tt.2.1, .int .i64 tt.2.2] := rfl
 have ihm := ihj (j + 1) (by omega) (by omega)
 rw [take_snoc (by rw [l3_len]; exact h'), List.map_append, List.map_cons, List.map_nil] at ihm
 have hsw : (l3 (sw3 q tt))[j]'(by rw [l3_len]; exact h') = sw q ((l3 tt)[j]'(by rw [l3_len]; exact h')) := by
   rcases j with _ | _ | _ | j
   · rfl
   · rfl
   · rfl
   · omega
 rw [hsw] at ihm
 have s2 := r109 q ((l3 tt)[j]'(by rw [l3_len]; exact h'))
 rw [hl3] at hg3
 generalize (l3 tt)[j] = p at *
 have kt : (((l3 (sw3 q tt)).take j).map IN).length = j := by rw [List.length_map, List.length_take, l3_len]; omega
 generalize ((l3 (sw3 q tt)).take j).map IN = LT at *
 have a1 : (LT.length + 1) * 8 ≤ 140737488355328 := by omega
 simp only [go_sem, k2]
 rw [q_drawn]
 rotate_left
 · kernel_rfl
 simp only [go_sem, still, s1, kn, hgn, k2, hg3, s2, a1, eq_self, wj]
 exact ihm
theorem r40 (x : Dfa) (s : ByteArray) (h1 : x.accept.length ≤ 1048576) (h2 : x.next.length ≤ 1048576) (h3 : ∀ r ∈ x.next, r.length ≤ 1048576) (hs : s.size ≤ 1048576) : run EE 40 [x.enc, .str s] [] = some (lqR x s, []) := by
 unfold lqR
 rw [run_eq EE 40 _ _ Tryz.func40 (by decide +kernel) rfl (show 2 ≤ _ by decide)]
 dsimp only [Tryz.f40]
 by_cases hv : validD x = true ∧ isWord s = true
 rotate_left
 · have rd := rn77 x s h1 h2 h3 hs hv 0
   simp only [Dfa.enc] at rd
   rw [if_neg hv]
   have z0 : ((0 : Nat) : Int) = 0 := rfl
   rw [z0] at rd
   simp only [go_sem, rd, Bool.not_false]
 rw [if_pos hv]
 obtain ⟨hx, hd⟩ := validD_dn hv.1
 have hw := hv.2
 generalize x.dn = d at hx hd ⊢
 subst hx
 have hle := hd.le
 have hps := hd.pos
 rw [DN.dfa_enc]
 have rd := r77 d hd s hs hw 0 (by omega)
 have hwk := walk_lt hd.ok s _ 0 0 (Nat.le_refl _) hd.pos
 generalize walk d s 0 0 = q at *
 have fr := r79 d hd q hwk
 have lm := r78 (fromD d q) (fromD_ok hd.ok hwk) (by rw [fromD_len]; omega) (by rw [fromD_len]; omega)
 rw [minS_S (fromD_ok hd.ok hwk) (by rw [fromD_len]; omega), quotS_from hd.ok hwk] at lm
 generalize quotS d q = Q at *
 generalize fromD d q = F at *
 have z0 : ((0 : Nat) : Int) = 0 := rfl
 simp only [DN.enc, DN.encD, z0] at rd fr lm ⊢
 simp only [go_sem, rd, fr, lm, Bool.not_true]
theorem r22 (x : Dfa) (s : ByteArray) (h1 : x.accept.length ≤ 1048576) (h2 : x.next.length ≤ 1048576) (h3 : ∀ r ∈ x.next, r.length ≤ 1048576) (hs : s.size ≤ 1048576) : run EE 22 [x.enc, .str s] [] = some (lqR x s, []) := by
 have iv := r50 x h1 h2 h3
 have iw := r51 s (by omega)
 simp only [Dfa.enc] at iv
 unfold lqR
 rw [run_eq EE 22 _ _ Tryz.func22 (by decide +kernel) rfl (show 2 ≤ _ by decide)]
 dsimp only [Tryz.f22]
 cases hV : validD x
 · rw [hV] at iv
   rw [if_neg (by simp)]
   simp only [go_sem, iv, Bool.not_false]
 cases hw : isWord s
 · rw [hV] at iv
   rw [hw] at iw
   rw [if_neg (by simp)]
   simp only [go_sem, iv, iw, Bool.not_true, Bool.not_false]
 rw [hV] at iv
 rw [hw] at iw
 rw [if_pos ⟨rfl, rfl⟩]
 obtain ⟨hx, hv⟩ := validD_dn hV
 generalize x.dn = d at hx hv ⊢
 subst hx
 have hle := hv.le
 have hps := hv.pos
 have hl := ltrs_word hw
 have e1 : d.dfa.accept = d.accept := rfl
 have e2 : d.dfa.next.map IL = d.next.map NT := by unfold DN.dfa; rw [List.map_map]; rfl
 rw [e1, e2] at iv
 rw [DN.dfa_enc]
 have rd := r53 d hv.ok s (by omega) hl 0 hv.pos
 have hwk := walk_lt hv.ok s _ 0 0 (Nat.le_refl _) hv.pos
 generalize walk d s 0 0 = q at *
 have lm := r52 d hv.ok (by omega) q hwk
 generalize quotS d q = Q at *
 have z0 : ((0 : Nat) : Int) = 0 := rfl
 simp only [DN.enc, DN.encD, z0] at rd lm ⊢
 simp only [go_sem, iv, iw, Bool.not_true]
 rw [q_drawn]
 rotate_left
 · kernel_rfl
 simp only [go_sem, still, rd, lm, eq_self]
end Go.Ev
namespace Go.Ev
open Go Go.Proofs
set_option maxRecDepth 10000
set_option maxHeartbeats 4000000

theorem r24 (x : Dfa) (m : Mor) (h1 : x.accept.length ≤ 1048576) (h2 : x.next.length ≤ 1048576) (h3 : ∀ r ∈ x.next, r.length ≤ 1048576) (ha : m.a.size ≤ 1048576) (hb : m.b.size ≤ 1048576) (hc : m.c.size ≤ 1048576) : run EE 24 [x.enc, m.enc] [] = some (preR x m, []) := by
 have iv := r50 x h1 h2 h3
 have iw := r54 m ha hb hc
 simp only [Dfa.enc, Mor.enc] at iv iw
 unfold preR
 rw [run_eq EE 24 _ _ Tryz.func24 (by decide +kernel) rfl (show 2 ≤ _ by decide)]
 dsimp only [Tryz.f24]
 simp only [Mor.enc]
 cases hV : validD x
 · rw [hV] at iv
   rw [if_neg (by simp)]
   simp only [go_sem, iv, Bool.not_false]
 cases hw : isMor m
 · rw [hV] at iv
   rw [hw] at iw
   rw [if_neg (by simp)]
   simp only [go_sem, iv, iw, Bool.not_true, Bool.not_false]
 rw [hV] at iv
 rw [hw] at iw
 rw [if_pos ⟨rfl, rfl⟩]
 obtain ⟨hx, hv⟩ := validD_dn hV
 generalize x.dn = d at hx hv ⊢
 subst hx
 have hle := hv.le
 have hps := hv.pos
 obtain ⟨⟨la, sa⟩, ⟨lb, sb⟩, ⟨lc, sc⟩⟩ := isMor_ltrs hw
 have e1 : d.dfa.accept = d.accept := rfl
 have e2 : d.dfa.next.map IL = d.next.map NT := by unfold DN.dfa; rw [List.map_map]; rfl
 rw [e1, e2] at iv
 rw [DN.dfa_enc]
 simp only [go_sem, iv, iw, Bool.not_true]
 refine (iter_inv (fun i : Nat => i ≤ d.accept.length) (fun i => { t := upd (upd (upd (upd (upd (upd e0 23 (.int .i64 i)) 22 (.int .i64 d.accept.length)) 6 (.ptr 0 6 0)) 4 (.ptr 0 4 0)) 3 (.ptr 0 3 0)) 2 (.ptr 0 2 0), b := upd (upd (upd (upd n0 6 (some (Ob.box [.slc false 1 (d.accept.map B), .slc true 1 (((List.range i).map (preT d m)).map NT)]))) 4 (some (Ob.box [.slc true 1 [], .slc true 1 []]))) 3 (some (Ob.box [.str m.a, .str m.b, .str m.c]))) 2 (some (Ob.box [.slc false 1 (d.accept.map B), .slc false 1 (d.next.map NT)])), o := [], r := #[ResultVar.cell 4 29, ResultVar.tmp 5], f := 24, n := 50 }) (fun _ => some (.tup [(quotS (preD d m) 0).encD, .bool true], [])) (fun i => d.accept.length - i) ?_ 0 (Nat.zero_le _))
 intro i hi ih
 by_cases h : i < d.accept.length
 rotate_left
 · have k1 : ¬ (i : Int) < d.accept.length := by omega
   obtain rfl : i = d.accept.length := by omega
   have pv := preD_val hv m
   have lm := r52 (preD d m) pv.ok (by show d.accept.length ≤ _; omega) 0 pv.pos
   have er : (preD d m).next = (List.range d.accept.length).map (preT d m) := rfl
   have ea : (preD d m).accept = d.accept := rfl
   have z0 : ((0 : Nat) : Int) = 0 := rfl
   simp only [DN.enc] at lm
   rw [er, ea, z0] at lm
   generalize quotS (preD d m) 0 = Q at *
   simp only [DN.encD] at lm ⊢
   simp only [go_sem, k1, lm]
 have k1 : (i : Int) < d.accept.length := by omega
 have w := wrap_nat (n := i) (by omega)
 have ihn := ih (i + 1) (by omega) (by omega)
 rw [List.range_succ, List.map_append, List.map_append, List.map_cons, List.map_nil, List.map_cons, List.map_nil] at ihn
 have ra := r53 d hv.ok m.a (by omega) la i h
 have rb := r53 d hv.ok m.b (by omega) lb i h
 have rc := r53 d hv.ok m.c (by omega) lc i h
 simp only [DN.enc] at ra rb rc
 have a2 : ((List.range i).length + 1) * 24 ≤ 140737488355328 := by rw [List.length_range]; omega
 have hT : NT (preT d m i) = .slc false 1 [.int .i64 (walk d m.a i 0), .int .i64 (walk d m.b i 0), .int .i64 (walk d m.c i 0)] := rfl
 rw [hT] at ihn
 simp only [go_sem, k1, w]
 rw [q_drawn]
 rotate_left
 · kernel_rfl
 simp only [go_sem, still, ra, rb, rc, h, a2, eq_self, w]
 exact ihn
section
attribute [-go_sem] uMakes uMakes_acc peekC_aref
theorem r42 (x : Dfa) (m : Mor) (h1 : x.accept.length ≤ 1048576) (h2 : x.next.length ≤ 1048576) (h3 : ∀ r ∈ x.next, r.length ≤ 1048576) (ha : m.a.size ≤ 1048576) (hb : m.b.size ≤ 1048576) (hc : m.c.size ≤ 1048576) : run EE 42 [x.enc, m.enc] [] = some (preR x m, []) := by
 have iv := r67 x h1 h2 h3
 have iw := r76 m ha hb hc
 simp only [Dfa.enc, Mor.enc] at iv iw
 unfold preR
 rw [run_eq EE 42 _ _ Tryz.func42 (by decide +kernel) rfl (show 2 ≤ _ by decide)]
 dsimp only [Tryz.f42]
 simp only [Mor.enc]
 cases hV : validD x
 · rw [hV] at iv
   rw [if_neg (by simp)]
   simp only [go_sem, iv, Bool.not_false]
 cases hw : isMor m
 · rw [hV] at iv
   rw [hw] at iw
   rw [if_neg (by simp)]
   simp only [go_sem, iv, iw, Bool.not_true, Bool.not_false]
 rw [hV] at iv
 rw [hw] at iw
 rw [if_pos ⟨rfl, rfl⟩]
 obtain ⟨hx, hv⟩ := validD_dn hV
 generalize x.dn = d at hx hv ⊢
 subst hx
 have hle := hv.le
 have hps := hv.pos
 obtain ⟨⟨la, sa⟩, ⟨lb, sb⟩, ⟨lc, sc⟩⟩ := isMor_ltrs hw
 have e1 : d.dfa.accept = d.accept := rfl
 have e2 : d.dfa.next.map IL = d.next.map NT := by unfold DN.dfa; rw [List.map_map]; rfl
 rw [e1, e2] at iv
 rw [DN.dfa_enc]
 have cp := r80 d hv
 simp only [DN.enc, DN.encD] at cp
 have hA : d.accept ≠ [] := fun e => by rw [e] at hps; exact absurd hps (by decide)
 have fA : (d.accept.length = 0) = False := eq_false (by omega)
 have ln : d.dfa.next.length = d.accept.length := by show (d.next.map _).length = _; rw [List.length_map, hv.ok.1]
 have hN' : d.dfa.next ≠ [] := fun e => by rw [e] at ln; exact absurd ln (by simp only [List.length_nil]; omega)
 have eU : d.dfa.next.map UR = d.next.map NU := by show (d.next.map _).map UR = _; rw [List.map_map]; rfl
 simp only [go_sem, iv, iw, cp, Bool.not_true]
 generalize hb0 : (upd (upd (upd (upd n0 2 _) 3 _) 4 _) 6 _ : Nat → Option Ob) = b0
 have w0 : NoM b0 439 := hb0 ▸ ((((NoM.n0 _).st (by decide) _).st (by decide) _).st (by decide) _).st (by decide) _
 have f0 : ∀ t, famD [440] t = true → b0 t = none := fun t ht => by
   rw [← hb0, upd_fam (by decide) _ ht, upd_fam (by decide) _ ht, upd_fam (by decide) _ ht, upd_fam (by decide) _ ht]
   rfl
 have q2 := congrFun hb0.symm 2
 have q3 := congrFun hb0.symm 3
 have q4 := congrFun hb0.symm 4
 have q6 := congrFun hb0.symm 6
 simp only [go_sem] at q2 q3 q4 q6
 clear hb0
 obtain ⟨b1, mk1, x1, o1, ra⟩ := made2 b0 439 d.accept d.dfa.next w0 f0 (by decide)
 simp only [rowT, fA, if_false, ln, eU] at mk1
 rw [mk1]
 clear mk1
 replace q2 := o1.lo (by decide) q2
 replace q3 := o1.lo (by decide) q3
 replace q4 := o1.lo (by decide) q4
 replace q6 := o1.lo (by decide) q6
 have q439 := x1.acc hA
 have q440 := x1.dir hN'
 clear w0 f0 o1
 have fo : ∀ t o r f n H c, FamOk ⟨t, upd b1 6 c, o, r, f, n⟩ H [440] := fun t o r f n H c => (ra.st (by decide) c).famOk t o r f n H
 have fe : ∀ c g, famB [440] (upd b1 6 c) g = famB [440] (rowsB 440 (mixN d m 0 0) 0 n0) g := fun c g => by rw [mixN_0 hv.ok]; exact (ra.st (by decide) c).fam g
 rw [← mixN_0 hv.ok m, mixN_lens] at q440
 generalize hns : ((List.range d.accept.length).map fun _ => 3) = ns at q440
 simp only [go_sem, q2, q3, q4, q6, q439, q440, fo, fe]
 refine (iter_inv (fun i : Nat => i ≤ d.accept.length) (fun i => { t := upd (upd (upd (upd (upd e0 7 (.int .i64 i)) 6 (.ptr 0 6 0)) 4 (.ptr 0 4 0)) 3 (.ptr 0 3 0)) 2 (.ptr 0 2 0), b := famB [440] (rowsB 440 (mixN d m i 0) 0 n0) (upd (upd (upd (upd (upd (upd n0 440 (some (Ob.dir 1 (refsR 0 440 ns)))) 439 (some (Ob.arr false 1 (d.accept.map B)))) 6 (some (Ob.box [.aref 0 439 d.accept.length, .aref 0 440 d.accept.length]))) 4 (some (Ob.box [.slc true 1 [], .slc true 1 []]))) 3 (some (Ob.box [.str m.a, .str m.b, .str m.c]))) 2 (some (Ob.box [.slc false 1 (d.accept.map B), .slc false 1 (d.next.map NT)]))), o := [], r := #[ResultVar.cell 4 29, ResultVar.tmp 5], f := 42, n := 55 }) (fun _ => some (.tup [(quotS (preD d m) 0).encD, .bool true], [])) (fun i => d.accept.length - i) ?_ 0 (Nat.zero_le _))
 intro i hi ih
 by_cases h : i < d.accept.length
 rotate_left
 · have k1 : ¬ (i : Int) < d.accept.length := by omega
   obtain rfl : i = d.accept.length := by omega
   have pv := preD_val hv m
   have lm := r78 (preD d m) pv.ok (by show d.accept.length ≤ _; omega) pv.pos
   rw [minS_S pv.ok pv.pos] at lm
   rw [mixN_all]
   have ea : (preD d m).accept = d.accept := rfl
   have el : (preD d m).dfa.next.map List.length = ns := by rw [← mixN_all, mixN_lens]; exact hns
   have ep : (preD d m).dfa.next.map IL = (preD d m).next.map NT := by unfold DN.dfa; rw [List.map_map]; rfl
   have en : (preD d m).dfa.next.length = d.accept.length := by rw [← mixN_all, mixN_len]
   simp only [DN.enc] at lm
   rw [ea] at lm
   have pk := fun g (ha : g 439 = some (.arr false 1 (d.accept.map B))) (hd : g 440 = some (.dir 1 (refsR 0 440 ns))) t r f n => peeked (dfaM_fam (u := 439) (A := d.accept) (rows := (preD d m).dfa.next) (g := g) (by decide) (fun _ => ha) (fun _ => by rw [el]; exact hd)) t r f n
   have px1 := fun g ha hd t r f n => (pk g ha hd t r f n).1
   have px2 := fun g ha hd t r f n => (pk g ha hd t r f n).2
   simp only [rowR, fA, if_false, ep, en] at px1 px2
   generalize quotS (preD d m) 0 = Q at *
   simp only [DN.encD] at lm ⊢
   simp only [go_sem, k1, px1, px2, lm]
 have k1 : (i : Int) < d.accept.length := by omega
 have w := wrap_nat (n := i) (by omega)
 have ihn := ih (i + 1) (by omega) (by omega)
 simp only [go_sem, k1]
 refine iter_inv (fun k : Nat => k ≤ 3) (fun k => { t := upd (upd (upd (upd (upd (upd e0 8 (.int .i64 k)) 7 (.int .i64 i)) 6 (.ptr 0 6 0)) 4 (.ptr 0 4 0)) 3 (.ptr 0 3 0)) 2 (.ptr 0 2 0), b := famB [440] (rowsB 440 (mixN d m i k) 0 n0) (upd (upd (upd (upd (upd (upd n0 440 (some (Ob.dir 1 (refsR 0 440 ns)))) 439 (some (Ob.arr false 1 (d.accept.map B)))) 6 (some (Ob.box [.aref 0 439 d.accept.length, .aref 0 440 d.accept.length]))) 4 (some (Ob.box [.slc true 1 [], .slc true 1 []]))) 3 (some (Ob.box [.str m.a, .str m.b, .str m.c]))) 2 (some (Ob.box [.slc false 1 (d.accept.map B), .slc false 1 (d.next.map NT)]))), o := [], r := #[ResultVar.cell 4 29, ResultVar.tmp 5], f := 42, n := 55 }) (fun _ => some (.tup [(quotS (preD d m) 0).encD, .bool true], [])) (fun k => 3 - k) ?_ 0 (Nat.zero_le _)
 intro k hk ihk
 by_cases hk3 : k < 3
 rotate_left
 · obtain rfl : k = 3 := by omega
   have k3 : ¬ ((3 : Nat) : Int) < 3 := by omega
   rw [mixN_next]
   simp only [go_sem, k3, w]
   exact ihn
 have k2 : (k : Int) < 3 := by omega
 have wk := wrap_nat (n := k) (by omega)
 have ihkn := ihk (k + 1) (by omega) (by omega)
 have hnl : ns.length = d.accept.length := by rw [← hns]; simp
 have hrl : (refsR 0 440 ns).length = d.accept.length := by simp [refsR, hnl]
 have hcell : ∀ v, (refsR 0 440 ns).getD i v = .aref 0 (rid 440 i) 3 := fun v => by
   have : i < ns.length := by omega
   have e3 : ns.getD i 0 = 3 := by rw [← hns]; simp [List.getD_eq_getElem?_getD, h]
   unfold refsR
   rw [List.getD_eq_getElem?_getD, List.getElem?_map, List.getElem?_range this]
   show rowR 0 (rid 440 i) (ns.getD i 0) = _
   rw [e3]
   rfl
 have hi2 : i < (mixN d m i k).length := by rw [mixN_len]; exact h
 have hrow : rowsB 440 (mixN d m i k) 0 n0 (rid 440 i) = some (.dir 1 ((rowK (d.nx i) (preT d m i) k).map I)) := by
   rw [rowsB_at, dif_pos hi2, mixN_at d m k hi2, if_neg (rowK_ne _ _ _)]
 have hlen : (rowK (d.nx i) (preT d m i) k).length = 3 := rfl
 have hset := rowK_set (d.nx i) (preT d m i) hk3
 rw [preT_at] at hset
 replace hset : ((rowK (d.nx i) (preT d m i) k).map I).set k (.int .i64 ((walk d (mor3 m k) i 0 : Nat) : Int)) = (rowK (d.nx i) (preT d m i) (k + 1)).map I := hset
 have am := r81 m (letS k) (by have : (letS k).size ≤ 3 := (by unfold letS abcS; simp; omega); omega) ha hb hc
 rw [appM_let hw hk3] at am
 have rd := r77 d hv (mor3 m k) (by have := mor3_size hw k; omega) (mor3_word hw k) i h
 simp only [DN.enc] at rd
 simp only [Mor.enc] at am
 have hup : ∀ g, upd (famB [440] (rowsB 440 (mixN d m i k) 0 n0) g) (rid 440 i) (some (.dir 1 ((rowK (d.nx i) (preT d m i) (k + 1)).map I))) = famB [440] (rowsB 440 (mixN d m i (k + 1)) 0 n0) g := fun g => by
   have := famB_set (u := 440) (j := i) g (by decide) hi2 (rowK_ne (d.nx i) (preT d m i) (k + 1))
   rw [mixN_set] at this
   exact this
 have hrd : ∀ g, famB [440] (rowsB 440 (mixN d m i k) 0 n0) g (rid 440 i) = some (.dir 1 ((rowK (d.nx i) (preT d m i) k).map I)) := fun g => (famB_rid 440 i _ g (by decide)).trans hrow
 clear hrow
 generalize rid 440 i = R at *
 simp only [go_sem, k2]
 rw [q_drawn]
 rotate_left
 · kernel_rfl
 have c1 : (k : Int) ≤ ((k + 1 : Nat) : Int) := by omega
 have c2 : ((k + 1 : Nat) : Int) ≤ (((⟨#[97, 98, 99]⟩ : ByteArray).size : Nat) : Int) := by show ((k + 1 : Nat) : Int) ≤ 3; omega
 unfold letS abcS at am
 simp only [go_sem, still, k2, eq_self, wk, am, rd, c1, c2, k1, hrl, hcell, hrd, hlen, hset, hup, h, hk3]
 exact ihkn
end
end Go.Ev
namespace Go.Ev
open Go Go.Proofs
set_option maxRecDepth 10000
set_option maxHeartbeats 4000000

theorem r68 (d : DN) (hv : Val d) : run EE 68 [d.enc, .slc false 1 (d.accept.map B)] [] = some (foundR (shortW d), []) := by
 have ho := hv.ok
 have hle := hv.le
 have hps := hv.pos
 unfold shortW
 rw [run_eq EE 68 _ _ Tryz.func68 (by decide +kernel) rfl (show 2 ≤ _ by decide)]
 dsimp only [Tryz.f68]
 simp only [DN.enc]
 simp only [go_sem]
 refine iter_inv (fun x : Nat × SW => SwOk d x.2 ∧ x.1 ≤ x.2.1.length ∧ (∀ w ∈ x.2.2, w.size ≤ x.1)) (fun x => { t := upd (upd (upd (upd (upd e0 8 (.int .i64 x.1)) 7 (.slc true 1 (x.2.2.map V.str))) 6 (.slc true 1 (x.2.1.map IN))) 2 (.ptr 0 2 0)) 1 (.slc false 1 (d.accept.map B)), b := upd n0 2 (some (Ob.box [.slc false 1 (d.accept.map B), .slc false 1 (d.next.map NT)])), o := [], r := #[ResultVar.tmp 4, ResultVar.tmp 5], f := 68, n := 65 }) (fun x => some (foundR (firstF d (d.accept.length + 1 - x.1) x.1 x.2), [])) (fun x => d.accept.length + 1 - x.1) ?_ (0, [0], [⟨#[]⟩]) ⟨⟨by simp, by intro y hy; rw [List.mem_singleton.1 hy]; omega, rfl, by intro w hw; rw [List.mem_singleton.1 hw]; decide⟩, Nat.zero_le _, by intro w hw; rw [List.mem_singleton.1 hw]; exact Nat.le_refl _⟩
 rintro ⟨i, p⟩ ⟨hp, hi, hsz⟩ ih
 dsimp only at hp hi hsz ⊢
 have hln := hp.le
 by_cases h : i < p.1.length
 rotate_left
 · have k1 : ¬ (i : Int) < p.1.length := by omega
   rw [firstF_end h]
   simp only [go_sem, k1, foundR]
 have k1 : (i : Int) < p.1.length := by omega
 have hgl := getD_IN2 h
 have hq : p.1.getD i 0 < d.accept.length := by
   rw [List.getD_eq_getElem?_getD, List.getElem?_eq_getElem h]
   exact hp.lt _ (List.getElem_mem h)
 have hga := getD_B (l := d.accept) hq
 have hgw := getD_S2 (l := p.2) (i := i) (by rw [hp.len]; exact h)
 have k2 : ((p.1.getD i 0 : Nat) : Int) < d.accept.length := by omega
 have k3 : (i : Int) < p.2.length := by rw [hp.len]; exact k1
 have ef : d.accept.length + 1 - i = (d.accept.length - i) + 1 := by omega
 have ha : d.accept.getD (p.1.getD i 0) false = accN d (p.1.getD i 0) := rfl
 rw [ha] at hga
 rw [ef]
 cases hacc : accN d (p.1.getD i 0)
 rotate_left
 · rw [firstF_hit h hacc]
   rw [hacc] at hga
   simp only [go_sem, k1, k2, k3, hgl, hga, hgw, foundR]
 rw [firstF_next h hacc]
 rw [hacc] at hga
 have hok := insN_ok ho (by omega) hp h hsz
 simp only [go_sem, k1, k2, k3, hgl, hga, hgw]
 have wi := wrap_nat (n := i) (by omega)
 refine iter_inv (fun k : Nat => k ≤ 3) (fun k => { t := upd (upd (upd (upd (upd (upd e0 9 (.int .i64 k)) 8 (.int .i64 i)) 7 (.slc true 1 ((insN d i p k).2.map V.str))) 6 (.slc true 1 ((insN d i p k).1.map IN))) 2 (.ptr 0 2 0)) 1 (.slc false 1 (d.accept.map B)), b := upd n0 2 (some (Ob.box [.slc false 1 (d.accept.map B), .slc false 1 (d.next.map NT)])), o := [], r := #[ResultVar.tmp 4, ResultVar.tmp 5], f := 68, n := 65 }) (fun _ => some (foundR (firstF d (d.accept.length - i) (i + 1) (ins3W d i p)), [])) (fun k => 3 - k) ?_ 0 (Nat.zero_le _)
 intro k hk ihk
 obtain ⟨o1, o2, o3, o4, o5⟩ := hok k hk
 by_cases hk3 : k < 3
 rotate_left
 · obtain rfl : k = 3 := by omega
   have k4 : ¬ ((3 : Nat) : Int) < 3 := by omega
   rw [insN_3] at o1 o2 o3 ⊢
   have ihn := ih (i + 1, ins3W d i p) ⟨o1, by show i + 1 ≤ (ins3W d i p).1.length; omega, o2⟩ (by show d.accept.length + 1 - (i + 1) < d.accept.length + 1 - i; omega)
   rw [show d.accept.length + 1 - (i + 1) = d.accept.length - i by omega] at ihn
   simp only [go_sem, k4, wi]
   exact ihn
 have k4 : (k : Int) < 3 := by omega
 have wk := wrap_nat (n := k) (by omega)
 have ihkn := ihk (k + 1) (by omega) (by omega)
 have hle2 := o1.le
 have hiP : i < (insN d i p k).1.length := by omega
 have hlP := o1.len
 have hgP := getD_IN2 hiP
 have hwP := getD_S2 (l := (insN d i p k).2) (i := i) (by omega)
 have hszi : (p.2.getD i ⟨#[]⟩).size ≤ 1048576 := by
   have : i < p.2.length := by rw [hp.len]; exact h
   rw [List.getD_eq_getElem?_getD, List.getElem?_eq_getElem this]
   exact hp.sz _ (List.getElem_mem this)
 have hstep : insN d i p (k + 1) = insW (insN d i p k) (at3 (d.nx (p.1.getD i 0)) k) (p.2.getD i ⟨#[]⟩ ++ letS k) := by
   show insK d i (insN d i p k) k = _
   unfold insK
   rw [o4, o5]
 rw [hstep] at ihkn
 rw [o4] at hgP
 rw [o5] at hwP
 generalize insN d i p k = P at *
 generalize hqq : p.1.getD i 0 = q at *
 generalize p.2.getD i ⟨#[]⟩ = w0 at *
 have hgn : ∀ v : V, (d.next.map NT).getD q v = .slc false 1 [.int .i64 (d.nx q).1, .int .i64 (d.nx q).2.1, .int .i64 (d.nx q).2.2] := fun v => getD_NT (by rw [ho.1]; exact hq) v
 have k5 : (q : Int) < d.next.length := by rw [ho.1]; omega
 have hgt := fun v => NT_at (d.nx q) hk3 v
 have k6 : (i : Int) < P.1.length := by omega
 have k7 : (i : Int) < P.2.length := by omega
 have hat := at3_lt ho hq k
 generalize at3 (d.nx q) k = r at *
 have ff := r84 (P.1.map fun n : Nat => (n : Int)) (by rw [List.length_map]; omega) (r : Int)
 rw [← map_IN] at ff
 have hneg := (idxP (l := P.1) (x := r)).2
 generalize posP (fun y : Int => y == (r : Int)) (P.1.map fun n : Nat => (n : Int)) 0 = pos at ff hneg
 have c1 : (k : Int) ≤ ((k + 1 : Nat) : Int) := by omega
 have c2 : ((k + 1 : Nat) : Int) ≤ (((⟨#[97, 98, 99]⟩ : ByteArray).size : Nat) : Int) := by show ((k + 1 : Nat) : Int) ≤ 3; omega
 have m1 : (P.1.length + 1) * 8 ≤ 140737488355328 := by omega
 have m2 : (P.2.length + 1) * 16 ≤ 140737488355328 := by omega
 have c3 : ¬ ((w0.size + ((⟨#[97, 98, 99]⟩ : ByteArray).extract k (k + 1)).size : Nat) : Int) > 9223372036854775807 := by
   have : ((⟨#[97, 98, 99]⟩ : ByteArray).extract k (k + 1)).size = 1 := letS_size hk3
   omega
 unfold letS abcS at ihkn
 simp only [go_sem, k4]
 rw [q_drawn]
 rotate_left
 · kernel_rfl
 simp only [go_sem, still, k4, k5, k6, hgn, hgP, hgt, ff, eq_self]
 by_cases hm : r ∈ P.1
 · have hp2 : ¬ pos < 0 := fun e => hneg.1 e hm
   unfold insW at ihkn
   rw [if_pos hm] at ihkn
   simp only [go_sem, hp2, wk]
   exact ihkn
 · have hp2 : pos < 0 := hneg.2 hm
   unfold insW at ihkn
   rw [if_neg hm] at ihkn
   simp only [List.map_append, List.map_cons, List.map_nil] at ihkn
   simp only [go_sem, hp2, m1]
   rw [q_drawn]
   rotate_left
   · kernel_rfl
   simp only [go_sem, still, k7, hwP, c1, c2, c3, m2, wk, eq_self]
   exact ihkn
theorem r36 (d : DN) (hv : Val d) : run EE 36 [d.enc] [] = some (foundR (shortW d), []) := by
 have hle := hv.le
 have iv := r67 d.dfa (by show d.accept.length ≤ _; omega) (by show (d.next.map _).length ≤ _; rw [List.length_map, hv.ok.1]; omega) (by
   intro r hr
   obtain ⟨t, _, rfl⟩ := List.mem_map.1 hr
   show 3 ≤ 1048576; decide)
 rw [DN.dfa_enc, hv.valid] at iv
 have lf := r68 d hv
 simp only [DN.enc] at iv lf
 rw [run_eq EE 36 _ _ Tryz.func36 (by decide +kernel) rfl (show 1 ≤ _ by decide)]
 dsimp only [Tryz.f36]
 simp only [DN.enc]
 generalize shortW d = o at lf ⊢
 cases o <;> simp only [foundR] at lf ⊢ <;> simp only [go_sem, iv, lf, Bool.not_true]
end Go.Ev
namespace Go.Ev
open Go Go.Proofs
set_option maxRecDepth 10000
set_option maxHeartbeats 4000000

theorem eqI (a b : Nat) : eqV Tryz.prog 3 (IN a) (IN b) = some (decide (a = b)) := by
 show eqV Tryz.prog 3 (.int .i64 (a : Int)) (.int .i64 (b : Int)) = _
 rw [ev3, nat_beq, Bool.beq_eq_decide_eq]
theorem r69 (d : DN) (hv : Val d)
   (fa fn : Nat) (ca cn : List V) (os : List (Nat → Option Ob)) (hos : os.length ≠ 0) (hca : ∀ (st : St) (objs : _), st.o = os → ca.all (heldP st objs) = true) (hcn : ∀ (st : St) (objs : _), st.o = os → cn.all (heldP st objs) = true) (hae : ca.isEmpty = false) (hne : cn.isEmpty = false)
   (hacc : ∀ q, q < d.accept.length → ∀ b0, run EE fa (.int .i64 (q : Nat) :: ca) (b0 :: os) = some (.bool (accN d q), b0 :: os))
   (hnext : ∀ q, q < d.accept.length → ∀ k, k < 3 → ∀ b0, run EE fn (.int .i64 (q : Nat) :: .int .i64 (k : Nat) :: cn) (b0 :: os) = some (.int .i64 (at3 (d.nx q) k : Nat), b0 :: os))
   (hua : (EE.H fa).uniq = []) (hun : (EE.H fn).uniq = []) :
   run EE 69 [.int .i64 0, .fn fa ca, .fn fn cn] os = some (foundR (shortW d), os) := by
 have ho := hv.ok
 have hle := hv.le
 have hps := hv.pos
 have fN := fun x l => findE_mapN (P := Tryz.prog) (kt := 3) (enc := IN) eqI x l 0
 have pN := fun x l (h : x ∉ l) => putE_mapN (P := Tryz.prog) (kt := 3) (enc := IN) eqI (x := x) l 0 h
 simp only [Nat.zero_add, IN] at fN pN
 unfold shortW
 rw [run_eq EE 69 _ _ Tryz.func69 (by decide +kernel) rfl (show 3 ≤ _ by decide)]
 dsimp only [Tryz.f69]
 simp only [go_sem, hca, hcn]
 refine iter_inv (fun x : Nat × SW => SwOk d x.2 ∧ x.1 ≤ x.2.1.length ∧ (∀ w ∈ x.2.2, w.size ≤ x.1)) (fun x => { t := upd (upd (upd (upd (upd (upd e0 11 (.int .i64 x.1)) 10 (.mp os.length 19)) 9 (.slc true 1 (x.2.2.map V.str))) 8 (.slc true 1 (x.2.1.map IN))) 2 (.fn fn cn)) 1 (.fn fa ca), b := upd n0 19 (some (Ob.map (mapN IN 0 x.2.1))), o := os, r := #[ResultVar.tmp 6, ResultVar.tmp 7], f := 69, n := 77 }) (fun x => some (foundR (firstF d (d.accept.length + 1 - x.1) x.1 x.2), os)) (fun x => d.accept.length + 1 - x.1) ?_ (0, [0], [⟨#[]⟩]) ⟨⟨by simp, by intro y hy; rw [List.mem_singleton.1 hy]; omega, rfl, by intro w hw; rw [List.mem_singleton.1 hw]; decide⟩, Nat.zero_le _, by intro w hw; rw [List.mem_singleton.1 hw]; exact Nat.le_refl _⟩
 rintro ⟨i, p⟩ ⟨hp, hi, hsz⟩ ih
 dsimp only at hp hi hsz ⊢
 have hln := hp.le
 by_cases h : i < p.1.length
 rotate_left
 · have k1 : ¬ (i : Int) < p.1.length := by omega
   rw [firstF_end h]
   simp only [go_sem, k1, foundR, hca, hcn]
 have k1 : (i : Int) < p.1.length := by omega
 have hgl := getD_IN2 h
 have hq : p.1.getD i 0 < d.accept.length := by
   rw [List.getD_eq_getElem?_getD, List.getElem?_eq_getElem h]
   exact hp.lt _ (List.getElem_mem h)
 have hax := hacc _ hq
 have hgw := getD_S2 (l := p.2) (i := i) (by rw [hp.len]; exact h)
 have k3 : (i : Int) < p.2.length := by rw [hp.len]; exact k1
 have ef : d.accept.length + 1 - i = (d.accept.length - i) + 1 := by omega
 rw [ef]
 cases hacq : accN d (p.1.getD i 0)
 rotate_left
 · rw [firstF_hit h hacq]
   rw [hacq] at hax
   simp only [go_sem, k1, k3, hgl, hax, hae, hua, hgw, foundR, hca, hcn]
 rw [firstF_next h hacq]
 rw [hacq] at hax
 have hok := insN_ok ho (by omega) hp h hsz
 simp only [go_sem, k1, k3, hgl, hax, hae, hua, hca, hcn]
 have wi := wrap_nat (n := i) (by omega)
 refine iter_inv (fun k : Nat => k ≤ 3) (fun k => { t := upd (upd (upd (upd (upd (upd (upd e0 38 (.int .i64 k)) 11 (.int .i64 i)) 10 (.mp os.length 19)) 9 (.slc true 1 ((insN d i p k).2.map V.str))) 8 (.slc true 1 ((insN d i p k).1.map IN))) 2 (.fn fn cn)) 1 (.fn fa ca), b := upd n0 19 (some (Ob.map (mapN IN 0 (insN d i p k).1))), o := os, r := #[ResultVar.tmp 6, ResultVar.tmp 7], f := 69, n := 77 }) (fun _ => some (foundR (firstF d (d.accept.length - i) (i + 1) (ins3W d i p)), os)) (fun k => 3 - k) ?_ 0 (Nat.zero_le _)
 intro k hk ihk
 obtain ⟨o1, o2, o3, o4, o5⟩ := hok k hk
 by_cases hk3 : k < 3
 rotate_left
 · obtain rfl : k = 3 := by omega
   have k4 : ¬ ((3 : Nat) : Int) < 3 := by omega
   rw [insN_3] at o1 o2 o3 ⊢
   have ihn := ih (i + 1, ins3W d i p) ⟨o1, by show i + 1 ≤ (ins3W d i p).1.length; omega, o2⟩ (by show d.accept.length + 1 - (i + 1) < d.accept.length + 1 - i; omega)
   rw [show d.accept.length + 1 - (i + 1) = d.accept.length - i by omega] at ihn
   simp only [go_sem, k4, wi, hca, hcn]
   exact ihn
 have k4 : (k : Int) < 3 := by omega
 have wk := wrap_nat (n := k) (by omega)
 have ihkn := ihk (k + 1) (by omega) (by omega)
 have hle2 := o1.le
 have hiP : i < (insN d i p k).1.length := by omega
 have hlP := o1.len
 have hgP := getD_IN2 hiP
 have hwP := getD_S2 (l := (insN d i p k).2) (i := i) (by omega)
 have hszi : (p.2.getD i ⟨#[]⟩).size ≤ 1048576 := by
   have : i < p.2.length := by rw [hp.len]; exact h
   rw [List.getD_eq_getElem?_getD, List.getElem?_eq_getElem this]
   exact hp.sz _ (List.getElem_mem this)
 have hstep : insN d i p (k + 1) = insW (insN d i p k) (at3 (d.nx (p.1.getD i 0)) k) (p.2.getD i ⟨#[]⟩ ++ letS k) := by
   show insK d i (insN d i p k) k = _
   unfold insK
   rw [o4, o5]
 rw [hstep] at ihkn
 rw [o4] at hgP
 rw [o5] at hwP
 have hny := hnext _ hq k hk3
 generalize insN d i p k = P at *
 generalize hqq : p.1.getD i 0 = q at *
 generalize p.2.getD i ⟨#[]⟩ = w0 at *
 have k6 : (i : Int) < P.1.length := by omega
 have k7 : (i : Int) < P.2.length := by omega
 have hat := at3_lt ho hq k
 generalize at3 (d.nx q) k = r at *
 have f1 := fN r P.1
 have c1 : (k : Int) ≤ ((k + 1 : Nat) : Int) := by omega
 have c2 : ((k + 1 : Nat) : Int) ≤ (((⟨#[97, 98, 99]⟩ : ByteArray).size : Nat) : Int) := by show ((k + 1 : Nat) : Int) ≤ 3; omega
 have c3 : ¬ ((w0.size + ((⟨#[97, 98, 99]⟩ : ByteArray).extract k (k + 1)).size : Nat) : Int) > 9223372036854775807 := by
   have : ((⟨#[97, 98, 99]⟩ : ByteArray).extract k (k + 1)).size = 1 := letS_size hk3
   omega
 have m1 : (P.1.length + 1) * 8 ≤ 140737488355328 := by omega
 have m2 : (P.2.length + 1) * 16 ≤ 140737488355328 := by omega
 unfold letS abcS at ihkn
 by_cases hm : r ∈ P.1
 · rw [if_pos hm] at f1
   unfold insW at ihkn
   rw [if_pos hm] at ihkn
   simp only [go_sem, k4, k6, hgP, hny, hne, hun, f1, wk, hca, hcn]
   exact ihkn
 · rw [if_neg hm] at f1
   have f2 := pN r P.1 hm
   unfold insW at ihkn
   rw [if_neg hm] at ihkn
   simp only [List.map_append, List.map_cons, List.map_nil] at ihkn
   simp only [go_sem, k4, k6, hgP, hny, hne, hun, f1, f2, m1, hca, hcn]
   rw [q_drawn]
   rotate_left
   · kernel_rfl
   simp only [go_sem, still, k7, hwP, c1, c2, c3, m2, wk, eq_self, hca, hcn]
   exact ihkn
theorem r70 (d : DN) (q : Nat) (hq : q < d.accept.length) (k1 : Nat) (os : List (Nat → Option Ob)) (ho : os.length ≠ 0) (h1 : obIn k1 0 os = some (.box [.slc false 1 (d.accept.map B), .slc false 1 (d.next.map NT)])) :
   run EE 70 [.int .i64 (q : Nat), .ptr 0 k1 0] os = some (.bool (accN d q), os) := by
 have ho' : ¬ 0 = os.length := fun e => ho e.symm
 have p1 : (q : Int) < d.accept.length := by omega
 have g1 : ∀ v : V, (d.accept.map B).getD q v = B (accN d q) := fun v => getD_B hq v
 rw [run_eq EE 70 _ _ Tryz.func70 (by decide +kernel) rfl (show 2 ≤ _ by decide)]
 dsimp only [Tryz.f70]
 simp only [go_sem, ho', h1, p1, g1]
theorem r71 (d : DN) (hd : d.ok) (q : Nat) (hq : q < d.accept.length) (k : Nat) (hk : k < 3) (k1 : Nat) (os : List (Nat → Option Ob)) (ho : os.length ≠ 0) (h1 : obIn k1 0 os = some (.box [.slc false 1 (d.accept.map B), .slc false 1 (d.next.map NT)])) :
   run EE 71 [.int .i64 (q : Nat), .int .i64 (k : Nat), .ptr 0 k1 0] os = some (.int .i64 (at3 (d.nx q) k : Nat), os) := by
 have ho' : ¬ 0 = os.length := fun e => ho e.symm
 have p1 : (q : Int) < d.next.length := by rw [hd.1]; omega
 have p2 : (k : Int) < 3 := by omega
 have g1 : ∀ v : V, (d.next.map NT).getD q v = .slc false 1 [.int .i64 (d.nx q).1, .int .i64 (d.nx q).2.1, .int .i64 (d.nx q).2.2] := fun v => getD_NT (by rw [hd.1]; exact hq) v
 have g2 := fun v => NT_at (d.nx q) hk v
 rw [run_eq EE 71 _ _ Tryz.func71 (by decide +kernel) rfl (show 3 ≤ _ by decide)]
 dsimp only [Tryz.f71]
 simp only [go_sem, ho', h1, p1, p2, g1, g2]
theorem hpS (k1 : Nat) (b : Nat → Option Ob) : ∀ (st : St) (objs : _), st.o = [b] → ([.ptr 0 k1 0] : List V).all (heldP st objs) = true := by
 intro st objs h; simp [heldP, St.lv, h]
theorem obS {k : Nat} {b0 B0 : Nat → Option Ob} : obIn k 0 [b0, B0] = B0 k := rfl
theorem r37 (d : DN) (hv : Val d) : run EE 37 [d.enc] [] = some (foundR (shortW d), []) := by
 have hle := hv.le
 have iv := r50 d.dfa (by show d.accept.length ≤ _; omega) (by show (d.next.map _).length ≤ _; rw [List.length_map, hv.ok.1]; omega) (by
   intro r hr
   obtain ⟨t, _, rfl⟩ := List.mem_map.1 hr
   show 3 ≤ 1048576; decide)
 rw [DN.dfa_enc, hv.valid] at iv
 have ex := fun (B0 : Nat → Option Ob) (h1 : B0 1 = some (.box [.slc false 1 (d.accept.map B), .slc false 1 (d.next.map NT)])) =>
   r69 d hv 70 71 [.ptr 0 1 0] [.ptr 0 1 0] [B0] (by simp) (hpS 1 B0) (hpS 1 B0) rfl rfl
     (fun q hq b0 => r70 d q hq 1 _ (by simp) (by rw [obS]; exact h1))
     (fun q hq k hk b0 => r71 d hv.ok q hq k hk 1 _ (by simp) (by rw [obS]; exact h1)) (by kernel_rfl) (by kernel_rfl)
 simp only [DN.enc] at iv
 rw [run_eq EE 37 _ _ Tryz.func37 (by decide +kernel) rfl (show 1 ≤ _ by decide)]
 dsimp only [Tryz.f37]
 simp only [DN.enc]
 generalize shortW d = o at ex ⊢
 cases o <;> simp only [foundR] at ex ⊢ <;> simp only [go_sem, iv, ex, Bool.not_true]
end Go.Ev
