/- Words read, the reference's; right quotients. Left quotients, both. Draws: a byte, a number below another, one of some words. Draws: words. Draws: automata. Draws: automata, bent. Draws: an automaton and a word. The words of a length, and up to one. -/
import Derived.Test.YtidlhjphgnfbbaaEvU
import Derived.Test.YtidlhjphgnfbbaaEvQ
import Derived.Test.YtidlhjphgnfbbaaEvR
import Derived.Test.YtidlhjphgnfbbaaEvT
import Derived.Test.YtidlhjphgnfbbaaEvP
set_option linter.unusedVariables false
set_option linter.unusedSimpArgs false
namespace Go.Ev
open Go Go.Proofs
set_option maxRecDepth 10000
set_option maxHeartbeats 4000000

theorem r23 (d : DN) (hv : Val d) (s : ByteArray) (hs : s.size ≤ 1048576) (hw : isWord s = true) (q : Nat) (hq : q < d.accept.length) : run EE 23 [d.enc, .int .i64 q, .str s] [] = some (.tup [.int .i64 (walk d s q 0), .bool true], []) := by
 have hd := hv.ok
 have hl := ltrs_word hw
 have hle := hv.le
 have hps := hv.pos
 have iv := r26 d.dfa (by show d.accept.length ≤ _; omega) (by show (d.next.map _).length ≤ _; rw [List.length_map, hd.1]; omega) (by
   intro r hr
   obtain ⟨t, _, rfl⟩ := List.mem_map.1 hr
   show 3 ≤ 1048576; decide)
 rw [DN.dfa_enc, hv.valid] at iv
 have iw := r27 s (by omega)
 rw [hw] at iw
 have ii := r41 (q : Int) 0 ((d.accept.length : Int) - 1)
 have w0 : IntKind.i64.wrap ((d.accept.length : Int) - 1) = (d.accept.length : Int) - 1 := wrap_in (by omega) (by omega)
 have c0 : (decide ((0 : Int) ≤ q) && decide ((q : Int) ≤ (d.accept.length : Int) - 1)) = true := by
   rw [Bool.and_eq_true, decide_eq_true_eq, decide_eq_true_eq]; omega
 rw [c0] at ii
 simp only [DN.enc] at iv
 rw [run_eq EE 23 _ _ Try.func23 (by decide +kernel) rfl (show 3 ≤ _ by decide)]
 dsimp only [Try.f23]
 simp only [go_sem, iv, iw, ii, w0, Bool.not_true]
 refine iter_inv (fun x : Nat × Nat => x.1 < d.accept.length) (fun x => { t := upd (upd (upd (upd e0 9 (.int .i64 x.2)) 8 (.int .i64 x.1)) 3 (.ptr 0 3 0)) 2 (.str s), b := upd n0 3 (some (Ob.box [.slc false 1 (d.accept.map B), .slc false 1 (d.next.map NT)])), o := [], r := #[ResultVar.tmp 6, ResultVar.tmp 7], f := 23, n := 46 }) (fun x => some (.tup [.int .i64 (walk d s x.1 x.2), .bool true], [])) (fun x => s.size - x.2) ?_ (q, 0) hq
 rintro ⟨p, i⟩ hp ih
 dsimp only at hp ⊢
 by_cases h : i < s.size
 rotate_left
 · have k1 : ¬ (i : Int) < s.size := by omega
   rw [walk_end h]
   simp only [go_sem, k1]
 have k1 : (i : Int) < s.size := by omega
 have w := wrap_nat (n := i) (by omega)
 have p1 : (p : Int) < d.next.length := by rw [hd.1]; omega
 have g1 : ∀ v : V, (d.next.map NT).getD p v = NT (d.nx p) := fun v => getD_NT (by rw [hd.1]; exact hp) v
 have li := r42 (bt s i)
 have ihn := ih (nxL (d.nx p) (bt s i), i + 1) (nxL_lt hd hp _) (by dsimp only; omega)
 rw [walk_next h]
 dsimp only at ihn
 generalize hA : d.nx p = A at g1 ihn ⊢
 simp only [go_sem, k1]
 rw [q_drawn]
 rotate_left
 · kernel_rfl
 rcases ltr_of (isLtr_abc (hl i h)) A with ⟨c, e, n⟩ | ⟨c, e, n⟩ | ⟨c, e, n⟩
 all_goals
   rw [e] at li
   rw [n] at ihn ⊢
   simp only [go_sem, k1, li, p1, g1, w]
   exact ihn
theorem uqL_m {α : Type} (f : α → V) {l : List α} (h : l ≠ []) : uqL (l.map f) = .uq 1 (l.map f) := uqL_map f h
theorem r28 (d : DN) (hv : Val d) : run EE 28 [d.enc] [] = some (d.encD, []) := by
 have hd := hv.ok
 have hle := hv.le
 have hps := hv.pos
 have hn := hd.1
 have a1 : d.accept.length * 1 ≤ 140737488355328 := by omega
 unfold DN.encD
 rw [run_eq EE 28 _ _ Try.func28 (by decide +kernel) rfl (show 1 ≤ _ by decide)]
 dsimp only [Try.f28]
 simp only [go_sem, a1]
 refine iter_inv (fun i : Nat => i ≤ d.next.length) (fun i => { t := upd (upd (upd (upd e0 4 (.int .i64 i)) 3 (.ptr 0 3 0)) 2 (.ptr 0 2 0)) 1 (.ptr 0 1 0), b := upd (upd (upd n0 3 (some (Ob.box [.uq 1 (d.accept.map B), uqL ((d.next.take i).map NU)]))) 2 (some (Ob.box [.slc true 1 [], .slc true 1 []]))) 1 (some (Ob.box [.slc false 1 (d.accept.map B), .slc false 1 (d.next.map NT)])), o := [], r := #[ResultVar.cell 2 27], f := 28, n := 30 }) (fun _ => some (.agg [.uq 1 (d.accept.map B), .uq 1 (d.next.map NU)], [])) (fun i => d.next.length - i) ?_ 0 (Nat.zero_le _)
 intro i hi ih
 by_cases h : i < d.next.length
 rotate_left
 · have k1 : ¬ (i : Int) < d.next.length := by omega
   rw [List.take_of_length_le (by omega), uqL_m _ (fun e => by rw [e] at hn; simp at hn; omega)]
   simp only [go_sem, k1]
 have k1 : (i : Int) < d.next.length := by omega
 have w := wrap_nat (n := i) (by omega)
 have ihn := ih (i + 1) (by omega) (by omega)
 rw [uqL_m _ (fun e => by have := congrArg List.length e; rw [List.length_take, List.length_nil] at this; omega), take_snoc h, List.map_append, List.map_cons, List.map_nil] at ihn
 have hg : ∀ v : V, (d.next.map NT).getD i v = NT d.next[i] := fun v => getD_map h v
 generalize d.next[i] = t at hg ihn
 have a2 : (min i d.next.length + 1) * 24 ≤ 140737488355328 := by omega
 simp only [go_sem, k1]
 rw [q_drawn]
 rotate_left
 · kernel_rfl
 by_cases hi0 : i = 0
 · have ht0 : d.next.take i = [] := by rw [hi0]; rfl
   have ez2 : uqL (([] : List (Nat × Nat × Nat)).map NU) = .slc true 1 [] := rfl
   have m3 : ((0 : Nat) + 1) * 24 ≤ 140737488355328 := by decide
   rw [ht0] at ihn ⊢
   rw [ez2]
   simp only [List.map_nil, List.nil_append] at ihn
   simp only [go_sem, still, k1, hg, a2, m3, eq_self, w]
   exact ihn
 · have hti : d.next.take i ≠ [] := fun e => by
     have := congrArg List.length e
     rw [List.length_take, List.length_nil] at this
     omega
   rw [uqL_m _ hti]
   simp only [go_sem, still, k1, hg, a2, eq_self, w]
   exact ihn
section
attribute [-go_sem] uMakes uMakes_acc peekC_aref
theorem r9 (x : Dfa) (s : ByteArray) (h1 : x.accept.length ≤ 1048576) (h2 : x.next.length ≤ 1048576) (h3 : ∀ r ∈ x.next, r.length ≤ 1048576) (hs : s.size ≤ 1048576) : run EE 9 [x.enc, .str s] [] = some (rqR x s, []) := by
 have iv := r26 x h1 h2 h3
 have iw := r27 s (by omega)
 simp only [Dfa.enc] at iv
 unfold rqR
 rw [run_eq EE 9 _ _ Try.func9 (by decide +kernel) rfl (show 2 ≤ _ by decide)]
 dsimp only [Try.f9]
 cases hV : validD x
 · rw [hV] at iv
   rw [if_neg (by simp)]
   simp only [go_sem, iv, Bool.not_false]
 cases hw : isWord s
 · rw [hV] at iv
   rw [hw] at iw
   rw [if_neg (by simp)]
   simp only [go_sem, iv, iw, Bool.not_true, Bool.not_false]
 rw [hV] at iv
 rw [hw] at iw
 rw [if_pos ⟨rfl, rfl⟩]
 obtain ⟨hx, hv⟩ := validD_dn hV
 generalize x.dn = d at hx hv ⊢
 subst hx
 have hle := hv.le
 have hps := hv.pos
 have e1 : d.dfa.accept = d.accept := rfl
 have e2 : d.dfa.next.map IL = d.next.map NT := by unfold DN.dfa; rw [List.map_map]; rfl
 rw [e1, e2] at iv
 rw [DN.dfa_enc]
 have cp := r28 d hv
 simp only [DN.enc, DN.encD] at cp
 have hA : d.accept ≠ [] := fun e => by rw [e] at hps; exact absurd hps (by decide)
 have fA : (d.accept.length = 0) = False := eq_false (by omega)
 have ln : d.dfa.next.length = d.accept.length := by show (d.next.map _).length = _; rw [List.length_map, hv.ok.1]
 have hN : d.dfa.next.map List.length ≠ [] := fun e => by have := congrArg List.length e; rw [List.length_map, ln, List.length_nil] at this; omega
 have hN' : d.dfa.next ≠ [] := fun e => by rw [e] at ln; exact absurd ln (by simp only [List.length_nil]; omega)
 have eU : d.dfa.next.map UR = d.next.map NU := by show (d.next.map _).map UR = _; rw [List.map_map]; rfl
 simp only [go_sem, iv, iw, cp, Bool.not_true]
 generalize hb0 : (upd (upd (upd n0 2 _) 4 _) 6 _ : Nat → Option Ob) = b0
 have w0 : NoM b0 430 := hb0 ▸ (((NoM.n0 _).st (by decide) _).st (by decide) _).st (by decide) _
 have f0 : ∀ t, famD [431] t = true → b0 t = none := fun t ht => by
   rw [← hb0, upd_fam (by decide) _ ht, upd_fam (by decide) _ ht, upd_fam (by decide) _ ht]
   rfl
 have q2 := congrFun hb0.symm 2
 have q4 := congrFun hb0.symm 4
 have q6 := congrFun hb0.symm 6
 simp only [go_sem] at q2 q4 q6
 clear hb0
 obtain ⟨b1, mk1, x1, o1, ra⟩ := made2 b0 430 d.accept d.dfa.next w0 f0 (by decide)
 simp only [rowT, fA, if_false, ln, eU] at mk1
 rw [mk1]
 clear mk1
 replace q2 := o1.lo (by decide) q2
 replace q4 := o1.lo (by decide) q4
 replace q6 := o1.lo (by decide) q6
 have q430 := x1.acc hA
 have q431 := x1.dir hN'
 clear w0 f0 o1
 have fo : ∀ t o r f n H c, FamOk ⟨t, upd b1 6 c, o, r, f, n⟩ H [431] := fun t o r f n H c => (ra.st (by decide) c).famOk t o r f n H
 have fe : ∀ c g, famB [431] (upd b1 6 c) g = famB [431] (rowsB 431 d.dfa.next 0 n0) g := fun c g => (ra.st (by decide) c).fam g
 have hm0 : d.accept.map B = (mixA d s 0).map B := by rw [mixA_0]
 rw [hm0] at q430
 simp only [go_sem, q2, q4, q6, q430, q431, fo, fe]
 refine (iter_inv (fun i : Nat => i ≤ d.accept.length) (fun i => { t := upd (upd (upd (upd (upd e0 7 (.int .i64 i)) 6 (.ptr 0 6 0)) 4 (.ptr 0 4 0)) 2 (.ptr 0 2 0)) 1 (.str s), b := famB [431] (rowsB 431 d.dfa.next 0 n0) (upd (upd (upd (upd (upd n0 431 (some (Ob.dir 1 (refsR 0 431 (d.dfa.next.map List.length))))) 430 (some (Ob.arr false 1 ((mixA d s i).map B)))) 6 (some (Ob.box [.aref 0 430 d.accept.length, .aref 0 431 d.accept.length]))) 4 (some (Ob.box [.slc true 1 [], .slc true 1 []]))) 2 (some (Ob.box [.slc false 1 (d.accept.map B), .slc false 1 (d.next.map NT)]))), o := [], r := #[ResultVar.cell 4 27, ResultVar.tmp 5], f := 9, n := 46 }) (fun _ => some (.tup [(quotS (rqD d s) 0).encD, .bool true], [])) (fun i => d.accept.length - i) ?_ 0 (Nat.zero_le _))
 intro i hi ih
 by_cases h : i < d.accept.length
 rotate_left
 · have k1 : ¬ (i : Int) < d.accept.length := by omega
   obtain rfl : i = d.accept.length := by omega
   have lm := r24 (rqD d s) (rqD_ok hv.ok s) (by rw [rqD_len]; omega) (by rw [rqD_len]; omega)
   rw [minS_S (rqD_ok hv.ok s) (by rw [rqD_len]; omega)] at lm
   have er : (rqD d s).next = d.next := rfl
   simp only [DN.enc] at lm
   rw [er, ← mixA_all] at lm
   generalize quotS (rqD d s) 0 = Q at *
   simp only [DN.encD] at lm ⊢
   have hml := mixA_len d s d.accept.length
   have pk := fun g (ha : g 430 = some (.arr false 1 ((mixA d s d.accept.length).map B))) (hd : g 431 = some (.dir 1 (refsR 0 431 (d.dfa.next.map List.length)))) t r f n => peeked (dfaM_fam (u := 430) (A := mixA d s d.accept.length) (rows := d.dfa.next) (g := g) (by decide) (fun _ => ha) (fun _ => hd)) t r f n
   have px1 := fun g ha hd t r f n => (pk g ha hd t r f n).1
   have px2 := fun g ha hd t r f n => (pk g ha hd t r f n).2
   simp only [rowR, hml, fA, ln, if_false, e2] at px1 px2
   simp only [go_sem, k1, hml, px1, px2, lm]
 have k1 : (i : Int) < d.accept.length := by omega
 have w := wrap_nat (n := i) (by omega)
 have ihn := ih (i + 1) (by omega) (by omega)
 rw [← mixA_set d s h] at ihn
 have rd := r23 d hv s hs hw i h
 simp only [DN.enc] at rd
 have hwk := walk_lt hv.ok s _ i 0 (Nat.le_refl _) h
 have hga : ∀ v : V, (d.accept.map B).getD (walk d s i 0) v = B (rqA d s i) := fun v => getD_B hwk v
 have kw : ((walk d s i 0 : Nat) : Int) < d.accept.length := by omega
 have hml := mixA_len d s i
 simp only [go_sem, k1, rd]
 rw [q_drawn]
 rotate_left
 · kernel_rfl
 simp only [go_sem, still, k1, h, kw, hga, hml, eq_self, w]
 exact ihn
end
theorem r7 (x : Dfa) (s : ByteArray) (h1 : x.accept.length ≤ 1048576) (h2 : x.next.length ≤ 1048576) (h3 : ∀ r ∈ x.next, r.length ≤ 1048576) (hs : s.size ≤ 1048576) : run EE 7 [x.enc, .str s] [] = some (rqR x s, []) := by
 have iv := r19 x h1 h2 h3
 have iw := r20 s (by omega)
 simp only [Dfa.enc] at iv
 unfold rqR
 rw [run_eq EE 7 _ _ Try.func7 (by decide +kernel) rfl (show 2 ≤ _ by decide)]
 dsimp only [Try.f7]
 cases hV : validD x
 · rw [hV] at iv
   rw [if_neg (by simp)]
   simp only [go_sem, iv, Bool.not_false]
 cases hw : isWord s
 · rw [hV] at iv
   rw [hw] at iw
   rw [if_neg (by simp)]
   simp only [go_sem, iv, iw, Bool.not_true, Bool.not_false]
 rw [hV] at iv
 rw [hw] at iw
 rw [if_pos ⟨rfl, rfl⟩]
 obtain ⟨hx, hv⟩ := validD_dn hV
 generalize x.dn = d at hx hv ⊢
 subst hx
 have hle := hv.le
 have hps := hv.pos
 have hl := ltrs_word hw
 have e1 : d.dfa.accept = d.accept := rfl
 have e2 : d.dfa.next.map IL = d.next.map NT := by unfold DN.dfa; rw [List.map_map]; rfl
 rw [e1, e2] at iv
 rw [DN.dfa_enc]
 simp only [go_sem, iv, iw, Bool.not_true]
 refine (iter_inv (fun i : Nat => i ≤ d.accept.length) (fun i => { t := upd (upd (upd (upd (upd (upd e0 23 (.int .i64 i)) 22 (.int .i64 d.accept.length)) 6 (.ptr 0 6 0)) 4 (.ptr 0 4 0)) 2 (.ptr 0 2 0)) 1 (.str s), b := upd (upd (upd n0 6 (some (Ob.box [.slc true 1 (((List.range i).map (rqA d s)).map B), .slc false 1 (d.next.map NT)]))) 4 (some (Ob.box [.slc true 1 [], .slc true 1 []]))) 2 (some (Ob.box [.slc false 1 (d.accept.map B), .slc false 1 (d.next.map NT)])), o := [], r := #[ResultVar.cell 4 27, ResultVar.tmp 5], f := 7, n := 42 }) (fun _ => some (.tup [(quotS (rqD d s) 0).encD, .bool true], [])) (fun i => d.accept.length - i) ?_ 0 (Nat.zero_le _))
 intro i hi ih
 by_cases h : i < d.accept.length
 rotate_left
 · have k1 : ¬ (i : Int) < d.accept.length := by omega
   obtain rfl : i = d.accept.length := by omega
   have lm := r21 (rqD d s) (rqD_ok hv.ok s) (by rw [rqD_len]; omega) 0 (by rw [rqD_len]; omega)
   have er : (rqD d s).next = d.next := rfl
   have ea : (rqD d s).accept = (List.range d.accept.length).map (rqA d s) := rfl
   have z0 : ((0 : Nat) : Int) = 0 := rfl
   simp only [DN.enc] at lm
   rw [er, ea, z0] at lm
   generalize quotS (rqD d s) 0 = Q at *
   simp only [DN.encD] at lm ⊢
   simp only [go_sem, k1, lm]
 have k1 : (i : Int) < d.accept.length := by omega
 have w := wrap_nat (n := i) (by omega)
 have ihn := ih (i + 1) (by omega) (by omega)
 rw [List.range_succ, List.map_append, List.map_append, List.map_cons, List.map_nil, List.map_cons, List.map_nil] at ihn
 have rd := r22 d hv.ok s (by omega) hl i h
 simp only [DN.enc] at rd
 have hwk := walk_lt hv.ok s _ i 0 (Nat.le_refl _) h
 have hga : ∀ v : V, (d.accept.map B).getD (walk d s i 0) v = B (rqA d s i) := fun v => getD_B hwk v
 have kw : ((walk d s i 0 : Nat) : Int) < d.accept.length := by omega
 have a2 : ((List.range i).length + 1) * 1 ≤ 140737488355328 := by rw [List.length_range]; omega
 simp only [go_sem, k1, w]
 rw [q_drawn]
 rotate_left
 · kernel_rfl
 simp only [go_sem, still, rd, h, kw, hga, a2, eq_self, w]
 exact ihn
end Go.Ev
namespace Go.Ev
open Go Go.Proofs
set_option maxRecDepth 10000
set_option maxHeartbeats 4000000

theorem rn23 (x : Dfa) (s : ByteArray) (h1 : x.accept.length ≤ 1048576) (h2 : x.next.length ≤ 1048576) (h3 : ∀ r ∈ x.next, r.length ≤ 1048576) (hs : s.size ≤ 1048576) (hv : ¬ (validD x = true ∧ isWord s = true)) (q : Nat) : run EE 23 [x.enc, .int .i64 q, .str s] [] = some (.tup [.int .i64 0, .bool false], []) := by
 have iv := r26 x h1 h2 h3
 have iw := r27 s (by omega)
 have ii := r41 (q : Int) 0 ((x.accept.length : Int) - 1)
 have w0 : IntKind.i64.wrap ((x.accept.length : Int) - 1) = (x.accept.length : Int) - 1 := wrap_in (by omega) (by omega)
 simp only [Dfa.enc] at iv
 rw [run_eq EE 23 _ _ Try.func23 (by decide +kernel) rfl (show 3 ≤ _ by decide)]
 dsimp only [Try.f23]
 cases hV : validD x
 · rw [hV] at iv
   simp only [go_sem, iv, Bool.not_false]
 rw [hV] at iv
 have hw : isWord s = false := by
   cases h : isWord s
   · rfl
   · exact absurd ⟨hV, h⟩ hv
 rw [hw] at iw
 generalize (decide ((0 : Int) ≤ q) && decide ((q : Int) ≤ (x.accept.length : Int) - 1)) = c at ii
 cases c
 · simp only [go_sem, iv, iw, ii, w0, Bool.not_true, Bool.not_false]
 · simp only [go_sem, iv, iw, ii, w0, Bool.not_true, Bool.not_false]
theorem r45 (q i : Nat) : run EE 45 [.int .i64 q, .int .i64 i] [] = some (.int .i64 (sw q i), []) := by
 rw [run_eq EE 45 _ _ Try.func45 (by decide +kernel) rfl (show 2 ≤ _ by decide)]
 dsimp only [Try.f45]
 unfold sw
 by_cases h : i = 0
 · subst h
   rw [if_pos rfl]
   have c0 : ((0 : Nat) : Int) = 0 := rfl
   simp only [go_sem, c0]
 have h1 : ((i : Int) == 0) = false := by simpa using h
 rw [if_neg h]
 by_cases hq : i = q
 · subst hq
   rw [if_pos rfl]
   have c0 : ((0 : Nat) : Int) = 0 := rfl
   simp only [go_sem, h1, c0, beq_self_eq_true]
 · have h2 : ((i : Int) == (q : Int)) = false := by rw [nat_beq]; simpa using hq
   rw [if_neg hq]
   simp only [go_sem, h1, h2]
theorem r25 (d : DN) (hv : Val d) (q : Nat) (hq : q < d.accept.length) : run EE 25 [d.enc, .int .i64 q] [] = some ((fromD d q).enc, []) := by
 have hd := hv.ok
 have hle := hv.le
 have hn := hd.1
 generalize hRES : (some ((fromD d q).enc, ([] : List (Nat → Option Ob)))) = RES
 rw [run_eq EE 25 _ _ Try.func25 (by decide +kernel) rfl (show 2 ≤ _ by decide)]
 dsimp only [Try.f25]
 simp only [go_sem]
 refine iter_inv (fun i : Nat => i ≤ d.accept.length) (fun i => { t := upd (upd (upd (upd (upd e0 6 (.int .i64 i)) 5 (.ptr 0 5 0)) 4 (.ptr 0 4 0)) 2 (.ptr 0 2 0)) 1 (.int .i64 q), b := upd (upd (upd n0 5 (some (Ob.box [.slc true 1 (((List.range i).map fun i => accN d (sw q i)).map B), .slc true 1 (((List.range i).map fun i => sw3 q (d.nx (sw q i))).map NT)]))) 4 (some (Ob.box [.slc true 1 [], .slc true 1 []]))) 2 (some (Ob.box [.slc false 1 (d.accept.map B), .slc false 1 (d.next.map NT)])), o := [], r := #[ResultVar.cell 4 27], f := 25, n := 56 }) (fun _ => RES) (fun i => d.accept.length - i) ?_ 0 (Nat.zero_le _)
 intro i hi ih
 by_cases h : i < d.accept.length
 rotate_left
 · have k1 : ¬ (i : Int) < d.accept.length := by omega
   obtain rfl : i = d.accept.length := by omega
   rw [← hRES]
   simp only [go_sem, k1]
   rfl
 have k1 : (i : Int) < d.accept.length := by omega
 have w := wrap_nat (n := i) (by omega)
 have ihn := ih (i + 1) (by omega) (by omega)
 clear ih
 rw [List.range_succ, List.map_append, List.map_append, List.map_cons, List.map_nil, List.map_cons, List.map_nil, List.map_append, List.map_append, List.map_cons, List.map_nil, List.map_cons, List.map_nil] at ihn
 have hs := sw_lt hq h
 have s1 := r45 q i
 have hga : ∀ v : V, (d.accept.map B).getD (sw q i) v = B (accN d (sw q i)) := fun v => getD_B hs v
 have hgn : ∀ v : V, (d.next.map NT).getD (sw q i) v = NT (d.nx (sw q i)) := fun v => getD_NT (by omega) v
 have ka : ((sw q i : Nat) : Int) < d.accept.length := by omega
 have kn : ((sw q i : Nat) : Int) < d.next.length := by omega
 have hr : (List.range i).length = i := List.length_range
 have hla : ((List.range i).map fun i => accN d (sw q i)).length = i := by rw [List.length_map, hr]
 have hln : ((List.range i).map fun i => sw3 q (d.nx (sw q i))).length = i := by rw [List.length_map, hr]
 generalize (List.range i).map (fun i => accN d (sw q i)) = LA at *
 generalize (List.range i).map (fun i => sw3 q (d.nx (sw q i))) = LN at *
 generalize accN d (sw q i) = ac at *
 generalize d.nx (sw q i) = tt at *
 simp only [go_sem, k1]
 refine iter_inv (fun j : Nat => j ≤ 3) (fun j => { t := upd (upd (upd (upd (upd (upd (upd e0 8 (.int .i64 j)) 7 (.slc true 1 (((l3 (sw3 q tt)).take j).map IN))) 6 (.int .i64 i)) 5 (.ptr 0 5 0)) 4 (.ptr 0 4 0)) 2 (.ptr 0 2 0)) 1 (.int .i64 q), b := upd (upd (upd n0 5 (some (Ob.box [.slc true 1 (LA.map B), .slc true 1 (LN.map NT)]))) 4 (some (Ob.box [.slc true 1 [], .slc true 1 []]))) 2 (some (Ob.box [.slc false 1 (d.accept.map B), .slc false 1 (d.next.map NT)])), o := [], r := #[ResultVar.cell 4 27], f := 25, n := 56 }) (fun _ => RES) (fun j => 3 - j) ?_ 0 (Nat.zero_le _)
 intro j hj ihj
 by_cases h' : j < 3
 rotate_left
 · obtain rfl : j = 3 := by omega
   have k3 : ¬ ((3 : Nat) : Int) < 3 := by omega
   have et : ((l3 (sw3 q tt)).take 3).map IN = [.int .i64 (sw3 q tt).1, .int .i64 (sw3 q tt).2.1, .int .i64 (sw3 q tt).2.2] := rfl
   have a1 : (LA.length + 1) * 1 ≤ 140737488355328 := by omega
   have a2 : (LN.length + 1) * 24 ≤ 140737488355328 := by omega
   rw [et]
   simp only [go_sem, k3]
   rw [q_drawn]
   rotate_left
   · kernel_rfl
   simp only [go_sem, still, s1, ka, hga, a1, a2, eq_self, w]
   exact ihn
 have k2 : (j : Int) < 3 := by omega
 have k3 : (j : Int) < (l3 tt).length := by rw [l3_len]; omega
 have wj := wrap_nat (n := j) (by omega)
 have hg3 : ∀ v : V, ((l3 tt).map IN).getD j v = IN (l3 tt)[j] := fun v => getD_map (by rw [l3_len]; exact h') v
 have hl3 : (l3 tt).map IN = [.int .i64 tt.1, .int .i64 tt.2.1, .int .i64 tt.2.2] := rfl
 have ihm := ihj (j + 1) (by omega) (by omega)
 rw [take_snoc (by rw [l3_len]; exact h'), List.map_append, List.map_cons, List.map_nil] at ihm
 have hsw : (l3 (sw3 q tt))[j]'(by rw [l3_len]; exact h') = sw q ((l3 tt)[j]'(by rw [l3_len]; exact h')) := by
   rcases j with _ | _ | _ | j
   · rfl
   · rfl
   · rfl
   · omega
 rw [hsw] at ihm
 have s2 := r45 q ((l3 tt)[j]'(by rw [l3_len]; exact h'))
 rw [hl3] at hg3
 generalize (l3 tt)[j] = p at *
 have kt : (((l3 (sw3 q tt)).take j).map IN).length = j := by rw [List.length_map, List.length_take, l3_len]; omega
 generalize ((l3 (sw3 q tt)).take j).map IN = LT at *
 have a1 : (LT.length + 1) * 8 ≤ 140737488355328 := by omega
 simp only [go_sem, k2]
 rw [q_drawn]
 rotate_left
 · kernel_rfl
 simp only [go_sem, still, s1, kn, hgn, k2, hg3, s2, a1, eq_self, wj]
 exact ihm
theorem r8 (x : Dfa) (s : ByteArray) (h1 : x.accept.length ≤ 1048576) (h2 : x.next.length ≤ 1048576) (h3 : ∀ r ∈ x.next, r.length ≤ 1048576) (hs : s.size ≤ 1048576) : run EE 8 [x.enc, .str s] [] = some (lqR x s, []) := by
 unfold lqR
 rw [run_eq EE 8 _ _ Try.func8 (by decide +kernel) rfl (show 2 ≤ _ by decide)]
 dsimp only [Try.f8]
 by_cases hv : validD x = true ∧ isWord s = true
 rotate_left
 · have rd := rn23 x s h1 h2 h3 hs hv 0
   simp only [Dfa.enc] at rd
   rw [if_neg hv]
   have z0 : ((0 : Nat) : Int) = 0 := rfl
   rw [z0] at rd
   simp only [go_sem, rd, Bool.not_false]
 rw [if_pos hv]
 obtain ⟨hx, hd⟩ := validD_dn hv.1
 have hw := hv.2
 generalize x.dn = d at hx hd ⊢
 subst hx
 have hle := hd.le
 have hps := hd.pos
 rw [DN.dfa_enc]
 have rd := r23 d hd s hs hw 0 (by omega)
 have hwk := walk_lt hd.ok s _ 0 0 (Nat.le_refl _) hd.pos
 generalize walk d s 0 0 = q at *
 have fr := r25 d hd q hwk
 have lm := r24 (fromD d q) (fromD_ok hd.ok hwk) (by rw [fromD_len]; omega) (by rw [fromD_len]; omega)
 rw [minS_S (fromD_ok hd.ok hwk) (by rw [fromD_len]; omega), quotS_from hd.ok hwk] at lm
 generalize quotS d q = Q at *
 generalize fromD d q = F at *
 have z0 : ((0 : Nat) : Int) = 0 := rfl
 simp only [DN.enc, DN.encD, z0] at rd fr lm ⊢
 simp only [go_sem, rd, fr, lm, Bool.not_true]
theorem r6 (x : Dfa) (s : ByteArray) (h1 : x.accept.length ≤ 1048576) (h2 : x.next.length ≤ 1048576) (h3 : ∀ r ∈ x.next, r.length ≤ 1048576) (hs : s.size ≤ 1048576) : run EE 6 [x.enc, .str s] [] = some (lqR x s, []) := by
 have iv := r19 x h1 h2 h3
 have iw := r20 s (by omega)
 simp only [Dfa.enc] at iv
 unfold lqR
 rw [run_eq EE 6 _ _ Try.func6 (by decide +kernel) rfl (show 2 ≤ _ by decide)]
 dsimp only [Try.f6]
 cases hV : validD x
 · rw [hV] at iv
   rw [if_neg (by simp)]
   simp only [go_sem, iv, Bool.not_false]
 cases hw : isWord s
 · rw [hV] at iv
   rw [hw] at iw
   rw [if_neg (by simp)]
   simp only [go_sem, iv, iw, Bool.not_true, Bool.not_false]
 rw [hV] at iv
 rw [hw] at iw
 rw [if_pos ⟨rfl, rfl⟩]
 obtain ⟨hx, hv⟩ := validD_dn hV
 generalize x.dn = d at hx hv ⊢
 subst hx
 have hle := hv.le
 have hps := hv.pos
 have hl := ltrs_word hw
 have e1 : d.dfa.accept = d.accept := rfl
 have e2 : d.dfa.next.map IL = d.next.map NT := by unfold DN.dfa; rw [List.map_map]; rfl
 rw [e1, e2] at iv
 rw [DN.dfa_enc]
 have rd := r22 d hv.ok s (by omega) hl 0 hv.pos
 have hwk := walk_lt hv.ok s _ 0 0 (Nat.le_refl _) hv.pos
 generalize walk d s 0 0 = q at *
 have lm := r21 d hv.ok (by omega) q hwk
 generalize quotS d q = Q at *
 have z0 : ((0 : Nat) : Int) = 0 := rfl
 simp only [DN.enc, DN.encD, z0] at rd lm ⊢
 simp only [go_sem, iv, iw, Bool.not_true]
 rw [q_drawn]
 rotate_left
 · kernel_rfl
 simp only [go_sem, still, rd, lm, eq_self]
end Go.Ev
namespace Go.Ev
open Go Go.Proofs
set_option maxRecDepth 10000
set_option maxHeartbeats 4000000

theorem uByte (l : List Int) (hl : l.length ≤ 1048576) : DrawsU EE 46 [] l fun v => ∃ x : Int, 0 ≤ x ∧ x ≤ 255 ∧ v = .int .i64 x := by
 intro i h hi
 have wi := wrap_nat (n := i) (by omega)
 suffices main : ∀ (t lv : Nat) (o : List (Nat → Option Ob)), obIn t lv o = some (cur l i h) → ∀ RES, (if i < l.length then some (V.int .i64 (and64 (IntKind.i64.wrap (rawX (nextH h) + IntKind.i64.wrap (l.getD i 0))) 255), setIn t (cur l (i + 1) (nextH h)) lv o) else some (V.int .i64 (rawX (nextH h)), setIn t (cur l i (nextH h)) lv o)) = RES → run EE 46 [.ptr lv t 0] o = RES by
   by_cases hh : i < l.length
   · refine ⟨.int .i64 (and64 (IntKind.i64.wrap (rawX (nextH h) + IntKind.i64.wrap (l.getD i 0))) 255), i + 1, nextH h, ⟨_, (and255 _).1, (and255 _).2, rfl⟩, hh, fun t lv o ho => ?_⟩
     have := main t lv o ho _ rfl
     rw [if_pos hh] at this
     exact this
   · refine ⟨.int .i64 (rawX (nextH h)), i, nextH h, ⟨_, (and255 _).1, (and255 _).2, rfl⟩, hi, fun t lv o ho => ?_⟩
     have := main t lv o ho _ rfl
     rw [if_neg hh] at this
     exact this
 intro t lv o ho RES hRES
 have hlt := obIn_len ho
 have hne : ¬ lv = o.length := by omega
 have hs : ∀ ob, obIn t lv (setIn t ob lv o) = some ob := fun ob => by rw [obIn_set2 _ _ _ _ _ _ hlt, if_pos ⟨rfl, rfl⟩]
 unfold cur at ho hRES
 unfold rawX nextH at hRES
 rw [run_eq EE 46 _ _ Try.func46 (by decide +kernel) rfl (show 1 ≤ _ by decide)]
 dsimp only [Try.f46]
 simp only [go_sem, ↓arith_and64, ↓arith_xor64, ho, hne, hs, setIn_len, setIn_setIn]
 generalize IntKind.i64.wrap (IntKind.i64.wrap (h * 6364136223846793005) + 1442695040888963407) = h' at hRES ⊢
 rw [q_drs]
 rotate_left
 · kernel_rfl
 simp only [go_sem, ↓arith_and64, ↓arith_xor64, ho, hne, hs, setIn_len, setIn_setIn]
 generalize and64 (xor64 (h'.fdiv (2 ^ min 33 64)) (h'.fdiv (2 ^ min 45 64))) 255 = x at hRES ⊢
 refine (show ∀ T : Nat → V, T 0 = V.ptr lv t 0 → T 3 = V.int .i64 x → lim EE _ { t := T, b := n0, o := _, r := _, f := _, n := _ } = RES from ?_) _ rfl rfl
 intro T h0 h3
 rw [q_drs]
 rotate_left
 · kernel_rfl
 by_cases hh : i < l.length
 · have k1 : (i : Int) < l.length := by omega
   rw [if_pos hh] at hRES
   simp only [go_sem, ↓arith_and64, ↓arith_xor64, ho, hne, hs, setIn_len, setIn_setIn, List.length_map, k1, h0, h3]
   rw [q_drs]
   rotate_left
   · kernel_rfl
   simp only [go_sem, ↓arith_and64, ↓arith_xor64, ho, hne, hs, setIn_len, setIn_setIn, List.length_map, k1, h0, h3, getD_U8 _ hh, wi]
   exact hRES
 · have k1 : ¬ (i : Int) < l.length := by omega
   rw [if_neg hh] at hRES
   simp only [go_sem, ↓arith_and64, ↓arith_xor64, ho, hne, hs, setIn_len, setIn_setIn, List.length_map, k1, h0, h3]
   exact hRES
theorem obIn_push {t lv : Nat} {o : List (Nat → Option Ob)} {ob : Ob} (h : obIn t lv o = some ob) (b : Nat → Option Ob) : obIn t lv (b :: o) = some ob := by
 have := obIn_len h
 show (if lv = o.length then _ else obIn t lv o) = _
 rw [if_neg (by omega)]
 exact h
theorem uBelow (n : Int) (h1 : 0 < n) (h2 : n ≤ 256) (l : List Int) (hl : l.length ≤ 1048576) : DrawsU EE 32 [.int .i64 n] l fun v => ∃ x : Int, 0 ≤ x ∧ x < n ∧ v = .int .i64 x := by
 intro i h hi
 obtain ⟨_, i', h', ⟨x, x0, x1, rfl⟩, hi', hr⟩ := uByte l hl i h hi
 obtain ⟨r0, r1⟩ := rem_below x0 h1
 refine ⟨_, i', h', ⟨x.tmod n, r0, r1, rfl⟩, hi', fun t lv o ho => ?_⟩
 have hlt := obIn_len ho
 have hne : ¬ lv = o.length := by omega
 have hr := hr t lv _ (obIn_push ho n0)
 rw [setIn_push _ _ _ _ hlt] at hr
 have k1 : ¬ n ≤ 0 := by omega
 have k2 : ¬ n = 0 := by omega
 rw [run_eq EE 32 _ _ Try.func32 (by decide +kernel) rfl (show 2 ≤ _ by decide)]
 dsimp only [Try.f32]
 simp only [go_sem, k1, k2, h2, hne, hr]
theorem uOnce (n : Int) (h1 : 0 < n) (h2 : n ≤ 256) (l : List Int) (hl : l.length ≤ 1048576) : DrawsU EE 14 [.int .i64 n] l fun v => ∃ b : Bool, v = .bool b := by
 intro i h hi
 obtain ⟨_, i', h', ⟨x, x0, x1, rfl⟩, hi', hr⟩ := uBelow n h1 h2 l hl i h hi
 refine ⟨_, i', h', ⟨x == 0, rfl⟩, hi', fun t lv o ho => ?_⟩
 have hlt := obIn_len ho
 have hne : ¬ lv = o.length := by omega
 have hr := hr t lv _ (obIn_push ho n0)
 rw [setIn_push _ _ _ _ hlt] at hr
 rw [run_eq EE 14 _ _ Try.func14 (by decide +kernel) rfl (show 2 ≤ _ by decide)]
 dsimp only [Try.f14]
 simp only [go_sem, hne, hr]
theorem uPick (ws : List ByteArray) (h1 : 0 < ws.length) (h2 : ws.length ≤ 256) (l : List Int) (hl : l.length ≤ 1048576) : DrawsU EE 33 [.slc false 1 (ws.map V.str)] l fun v => ∃ w ∈ ws, v = .str w := by
 intro i h hi
 obtain ⟨_, i', h', ⟨x, x0, x1, rfl⟩, hi', hr⟩ := uBelow (ws.length : Int) (by omega) (by omega) l hl i h hi
 obtain ⟨n, rfl⟩ : ∃ n : Nat, x = n := ⟨x.toNat, by omega⟩
 have hn : n < ws.length := by omega
 refine ⟨_, i', h', ⟨_, List.getElem_mem hn, rfl⟩, hi', fun t lv o ho => ?_⟩
 have hlt := obIn_len ho
 have hne : ¬ lv = o.length := by omega
 have hr := hr t lv _ (obIn_push ho n0)
 rw [setIn_push _ _ _ _ hlt] at hr
 have k0 : (0 : Int) ≤ n := by omega
 rw [run_eq EE 33 _ _ Try.func33 (by decide +kernel) rfl (show 2 ≤ _ by decide)]
 dsimp only [Try.f33]
 simp only [go_sem, List.length_map, hr, k0, x1, getD_str hn, toNat_cast]
theorem dBelow (n : Int) (h1 : 0 < n) (h2 : n ≤ 256) (l : List Int) (hl : l.length ≤ 1048576) (t lv : Nat) : Draws EE 32 [.int .i64 n] l t lv fun v => ∃ x : Int, 0 ≤ x ∧ x < n ∧ v = .int .i64 x := (uBelow n h1 h2 l hl).to t lv
theorem dPick (ws : List ByteArray) (h1 : 0 < ws.length) (h2 : ws.length ≤ 256) (l : List Int) (hl : l.length ≤ 1048576) (t lv : Nat) : Draws EE 33 [.slc false 1 (ws.map V.str)] l t lv fun v => ∃ w ∈ ws, v = .str w := (uPick ws h1 h2 l hl).to t lv
end Go.Ev
namespace Go.Ev
open Go Go.Proofs
set_option maxRecDepth 10000
set_option maxHeartbeats 4000000

theorem dWord (most : Nat) (hm : most < 256) (l : List Int) (hl : l.length ≤ 1048576) (t lv : Nat) : Draws EE 18 [.int .i64 most] l t lv fun v => ∃ s : ByteArray, s.size ≤ most ∧ v = .str s := by
 refine Draws.mk fun o hc hlt Q hQ => ?_
 have hne : ¬ lv = o.length := by omega
 have w1 := wrap_nat (n := most) (by omega)
 obtain ⟨_, ob, ⟨x, x0, x1, rfl⟩, hc2, hr⟩ := (dBelow ((most + 1 : Nat) : Int) (by omega) (by omega) l hl t lv).at0 hc n0
 obtain ⟨n, rfl⟩ : ∃ n : Nat, x = n := ⟨x.toNat, by omega⟩
 have hn : n ≤ most := by omega
 rw [run_eq EE 18 _ _ Try.func18 (by decide +kernel) rfl (show 2 ≤ _ by decide)]
 dsimp only [Try.f18]
 simp only [go_sem, w1, hr, hne, setIn_len]
 refine iter_ex (fun x : Nat × ByteArray × Ob => x.1 ≤ n ∧ x.2.1.size ≤ x.1 ∧ Cur l t lv (setIn t x.2.2 lv o)) (fun x => { t := upd (upd (upd (upd e0 7 (.int .i64 (x.1 : Int))) 6 (.int .i64 (n : Int))) 5 (.str x.2.1)) 0 (.ptr lv t 0), b := n0, o := setIn t x.2.2 lv o, r := #[ResultVar.tmp 4], f := 18, n := 23 }) Q (fun x => n - x.1) ?_ (0, ⟨#[]⟩, ob) ⟨Nat.zero_le _, Nat.le_refl _, hc2⟩
 rintro ⟨k, out, ob⟩ ⟨hk, hs, hc⟩ ih
 dsimp only at hk hs hc ⊢
 by_cases hh : k < n
 rotate_left
 · have k1 : ¬ (k : Int) < n := by omega
   simp only [go_sem, k1]
   exact hQ _ _ ⟨out, by omega, rfl⟩ hc
 have k1 : (k : Int) < n := by omega
 have wk := wrap_nat (n := k) (by omega)
 obtain ⟨_, ob2, ⟨w, hw, rfl⟩, hc2, hr⟩ := (dPick [⟨#[97]⟩, ⟨#[98]⟩, ⟨#[97]⟩, ⟨#[98]⟩, ⟨#[99]⟩] (by decide) (by decide) l hl t lv).at hc n0
 have hz : w.size = 1 := by
   simp only [List.mem_cons, List.not_mem_nil, or_false] at hw
   rcases hw with rfl | rfl | rfl | rfl | rfl <;> rfl
 have ihw := ih (k + 1, out ++ w, ob2) ⟨hh, by show (out ++ w).size ≤ k + 1; rw [ByteArray.size_append]; omega, hc2⟩ (by show n - (k + 1) < n - k; omega)
 have q3 : ¬ ((out.size + w.size : Nat) : Int) > 9223372036854775807 := by omega
 simp only [List.map_cons, List.map_nil] at hr
 dsimp only at ihw
 simp only [go_sem, k1, hr, hne, setIn_len, q3, wk]
 exact ihw
def anyWs (s : ByteArray) : List ByteArray := [⟨#[]⟩, ⟨#[97]⟩, ⟨#[97, 98, 99]⟩, ⟨#[99, 99]⟩, ⟨#[97, 98, 100]⟩, ⟨#[65]⟩, ⟨#[99, 99, 99, 99, 99, 99, 99, 99, 99, 99, 99, 99, 99, 99, 99, 99, 99, 99, 99, 99, 99, 99, 99, 99, 99, 99, 99, 99, 99, 99]⟩, ⟨#[97, 97, 97, 97, 97, 97, 97, 97, 97, 97, 97, 97, 97, 97, 97, 97, 97, 97, 97, 97, 97, 97, 97, 97, 97, 97, 97, 97, 97, 97, 97]⟩, ⟨#[97, 99, 99]⟩, s]
theorem dAny (l : List Int) (hl : l.length ≤ 1048576) (t lv : Nat) : Draws EE 16 [] l t lv fun v => ∃ s : ByteArray, s.size ≤ 40 ∧ v = .str s := by
 refine Draws.mk fun o hc hlt Q hQ => ?_
 have hne : ¬ lv = o.length := by omega
 obtain ⟨_, ob, ⟨s, hs, rfl⟩, hc2, hr⟩ := (dWord 6 (by decide) l hl t lv).at0 hc n0
 obtain ⟨_, ob2, ⟨w, hw, rfl⟩, hc3, hr2⟩ := (dPick (anyWs s) (by simp [anyWs]) (by simp [anyWs]) l hl t lv).at hc2 n0
 have hz : w.size ≤ 40 := by
   simp only [anyWs, List.mem_cons, List.not_mem_nil, or_false] at hw
   rcases hw with rfl | rfl | rfl | rfl | rfl | rfl | rfl | rfl | rfl | rfl
   all_goals first | omega | (show _ ≤ _; decide)
 simp only [anyWs, List.map_cons, List.map_nil] at hr2
 have hr' : run EE 18 [.ptr lv t 0, .int .i64 6] _ = _ := hr
 rw [run_eq EE 16 _ _ Try.func16 (by decide +kernel) rfl (show 1 ≤ _ by decide)]
 dsimp only [Try.f16]
 simp only [go_sem, hr', hne, setIn_len, hr2]
 exact hQ _ _ ⟨w, hz, rfl⟩ hc3
end Go.Ev
namespace Go.Ev
open Go Go.Proofs
set_option maxRecDepth 10000
set_option maxHeartbeats 4000000

theorem uqL_m2 {α : Type} (f : α → V) {l : List α} (h : l ≠ []) : uqL (l.map f) = .uq 1 (l.map f) := uqL_map f h
def drawnA (A : List Bool) (N : List (List Int)) : V := .agg [.slc true 1 (A.map B), .uq 1 (N.map UR)]
theorem dDraw (most : Nat) (h0 : 0 < most) (hm : most < 200) (l : List Int) (hl : l.length ≤ 1048576) (t lv : Nat) : Draws EE 17 [.int .i64 most] l t lv fun v => ∃ A N, 1 ≤ A.length ∧ A.length ≤ most ∧ N.length = A.length ∧ (∀ r ∈ N, r.length = 3) ∧ v = drawnA A N := by
 refine Draws.mk fun o hc hlt Q hQ => ?_
 have hne : ¬ lv = o.length := by omega
 obtain ⟨_, ob, ⟨x, x0, x1, rfl⟩, hc2, hr⟩ := (dBelow (most : Int) (by omega) (by omega) l hl t lv).at0 hc (upd n0 4 (some (Ob.box [.slc true 1 [], .slc true 1 []])))
 obtain ⟨n, rfl⟩ : ∃ n : Nat, x = n := ⟨x.toNat, by omega⟩
 have hn : n < most := by omega
 have w1 : IntKind.i64.wrap (1 + (n : Int)) = ((n + 1 : Nat) : Int) := by rw [wrap_in (by omega) (by omega)]; omega
 rw [run_eq EE 17 _ _ Try.func17 (by decide +kernel) rfl (show 2 ≤ _ by decide)]
 dsimp only [Try.f17]
 simp only [go_sem, w1, hr, hne, setIn_len, false_and, if_false]
 refine iter_ex (fun x : Nat × List Bool × List (List Int) × Ob => x.1 ≤ n + 1 ∧ x.2.1.length = x.1 ∧ x.2.2.1.length = x.1 ∧ (∀ r ∈ x.2.2.1, r.length = 3) ∧ Cur l t lv (setIn t x.2.2.2 lv o)) (fun x => { t := upd (upd (upd (upd (upd e0 7 (.int .i64 (x.1 : Int))) 6 (.ptr o.length 6 0)) 5 (.int .i64 ((n + 1 : Nat) : Int))) 4 (.ptr o.length 4 0)) 0 (.ptr lv t 0), b := upd (upd n0 6 (some (Ob.box [.slc true 1 (x.2.1.map B), uqL (x.2.2.1.map UR)]))) 4 (some (Ob.box [.slc true 1 [], .slc true 1 []])), o := setIn t x.2.2.2 lv o, r := #[ResultVar.cell 4 27], f := 17, n := 45 }) Q (fun x => n + 1 - x.1) ?_ (0, [], [], ob) ⟨Nat.zero_le _, rfl, rfl, (by intro r hr; cases hr), hc2⟩
 rintro ⟨k, A, N, ob⟩ ⟨hk, hA, hN, hR, hc⟩ ih
 dsimp only at hk hA hN hR hc ⊢
 by_cases hh : k < n + 1
 rotate_left
 · have k1 : ¬ (k : Int) < ((n + 1 : Nat) : Int) := by omega
   have hne2 : N ≠ [] := fun e => by rw [e] at hN; simp at hN; omega
   rw [uqL_m2 _ hne2]
   simp only [go_sem, k1, hne, setIn_len]
   exact hQ _ _ ⟨A, N, by omega, by omega, by omega, hR, rfl⟩ hc
 have k1 : (k : Int) < ((n + 1 : Nat) : Int) := by omega
 have wk := wrap_nat (n := k) (by omega)
 obtain ⟨_, ob2, ⟨b, rfl⟩, hc2, hr⟩ := (uOnce 2 (by decide) (by decide) l hl).at hc
 have a1 : (A.length + 1) * 1 ≤ 140737488355328 := by omega
 simp only [go_sem, k1]
 rw [q_drt 6 (a := 1) (b := 3) (c2 := [0, 2, 3, 1, 4, 5, 6, 7])]
 rotate_left
 · kernel_rfl
 · kernel_rfl
 simp only [go_sem, hr, hne, setIn_len, a1, List.length_map]
 refine same_go ?_ ?_
 · congr 1
   funext z
   by_cases hz : 20 ≤ z ∧ z ≤ 26
   · have : z = 20 ∨ z = 21 ∨ z = 22 ∨ z = 23 ∨ z = 24 ∨ z = 25 ∨ z = 26 := by omega
     rcases this with rfl | rfl | rfl | rfl | rfl | rfl | rfl <;> rfl
   · simp only [upd_get, if_neg (show ¬ z = 20 by omega), if_neg (show ¬ z = 21 by omega), if_neg (show ¬ z = 22 by omega), if_neg (show ¬ z = 23 by omega), if_neg (show ¬ z = 24 by omega), if_neg (show ¬ z = 25 by omega), if_neg (show ¬ z = 26 by omega)]
 refine (show ∀ T : Nat → V, T 0 = V.ptr lv t 0 → T 4 = V.ptr o.length 4 0 → T 5 = V.int .i64 ((n + 1 : Nat) : Int) → T 6 = V.ptr o.length 6 0 → T 7 = V.int .i64 (k : Int) → Q (lim EE _ { t := T, b := _, o := _, r := _, f := _, n := _ }) from ?_) _ rfl rfl rfl rfl rfl
 intro T t0 t4 t5 t6 t7
 have eA : A.map B ++ [V.bool b] = (A ++ [b]).map B := by rw [List.map_append]; rfl
 simp only [go_sem, hne, setIn_len, false_and, if_false, uqL_c, t0, t4, t5, t6, t7, eA]
 have hA2 : (A ++ [b]).length = k + 1 := by rw [List.length_append, hA]; rfl
 generalize A ++ [b] = A2 at hA2
 refine iter_ex (fun x : Nat × List Int × Ob => x.1 ≤ 3 ∧ x.2.1.length = x.1 ∧ Cur l t lv (setIn t x.2.2 lv o)) (fun x => { t := upd (upd (upd (upd (upd (upd (upd e0 9 (.int .i64 (x.1 : Int))) 8 (uqL (x.2.1.map I))) 7 (.int .i64 (k : Int))) 6 (.ptr o.length 6 0)) 5 (.int .i64 ((n + 1 : Nat) : Int))) 4 (.ptr o.length 4 0)) 0 (.ptr lv t 0), b := upd (upd n0 6 (some (Ob.box [.slc true 1 (A2.map B), uqL (N.map UR)]))) 4 (some (Ob.box [.slc true 1 [], .slc true 1 []])), o := setIn t x.2.2 lv o, r := #[ResultVar.cell 4 27], f := 17, n := 45 }) Q (fun x => 3 - x.1) ?_ (0, [], ob2) ⟨Nat.zero_le _, rfl, hc2⟩
 rintro ⟨j, row, ob3⟩ ⟨hj, hrow, hc3⟩ ih2
 dsimp only at hj hrow hc3 ⊢
 by_cases hh2 : j < 3
 · have k2 : (j : Int) < 3 := by omega
   have wj := wrap_nat (n := j) (by omega)
   obtain ⟨_, ob4, ⟨x, x0', x1', rfl⟩, hc4, hr4⟩ := (uBelow ((n + 1 : Nat) : Int) (by omega) (by omega) l hl).at hc3
   have a2 : (row.length + 1) * 8 ≤ 140737488355328 := by omega
   have ihn := ih2 (j + 1, row ++ [x], ob4) ⟨hh2, by show (row ++ [x]).length = j + 1; rw [List.length_append, hrow]; rfl, hc4⟩ (by show 3 - (j + 1) < 3 - j; omega)
   dsimp only at ihn
   have eI : uqL ((row ++ [x]).map I) = .uq 1 (row.map I ++ [.int .i64 x]) := by
     rw [uqL_m2 _ (by simp), List.map_append]; rfl
   rw [eI] at ihn
   by_cases hj0 : row = []
   · subst hj0
     have ez : uqL (([] : List Int).map I) = .slc true 1 [] := rfl
     have a3 : (0 + 1) * 8 ≤ 140737488355328 := by decide
     rw [ez]
     simp only [List.map_nil, List.nil_append] at ihn
     simp only [go_sem, k2, hr4, hne, setIn_len, false_and, if_false, uqL_c, a3, wj]
     exact ihn
   · rw [uqL_m2 _ hj0]
     simp only [go_sem, k2, hr4, hne, setIn_len, false_and, if_false, uqL_c, a2, wj, List.length_map]
     exact ihn
 have k2 : ¬ (j : Int) < 3 := by omega
 have hr0 : row ≠ [] := fun e => by rw [e] at hrow; simp at hrow; omega
 rw [uqL_m2 _ hr0]
 have ihn := ih (k + 1, A2, N ++ [row], ob3) ⟨hh, hA2, by show (N ++ [row]).length = k + 1; rw [List.length_append, hN]; rfl, fun r hr => by
   rcases List.mem_append.1 hr with h | h
   · exact hR r h
   · rw [List.mem_singleton.1 h]; omega, hc3⟩ (by show n + 1 - (k + 1) < n + 1 - k; omega)
 dsimp only at ihn
 have eU : uqL ((N ++ [row]).map UR) = .uq 1 (N.map UR ++ [.uq 1 (row.map I)]) := by
   rw [uqL_m2 _ (by simp), List.map_append]; rfl
 rw [eU] at ihn
 have a4 : (N.length + 1) * 24 ≤ 140737488355328 := by omega
 by_cases hN0 : N = []
 · subst hN0
   have ez : uqL (([] : List (List Int)).map UR) = .slc true 1 [] := rfl
   have a5 : 1 * 24 ≤ 140737488355328 := by decide
   rw [ez]
   simp only [List.map_nil, List.nil_append] at ihn
   simp only [go_sem, k2, hne, setIn_len, false_and, if_false, a5, wk]
   exact ihn
 · rw [uqL_m2 _ hN0]
   simp only [go_sem, k2, hne, setIn_len, false_and, if_false, a4, wk, List.length_map]
   exact ihn
end Go.Ev
namespace Go.Ev
open Go Go.Proofs
set_option maxRecDepth 10000
set_option maxHeartbeats 4000000

theorem uMakesN_auto (s : St) (d : Nat) (A : List Bool) {N : List (List Int)} (hN : N ≠ []) (h : s.b (d + 1) = none) : uMakesN s d [.slc true 1 (A.map B), .uq 1 (N.map UR)] = some ([.slc true 1 (A.map B), .bref s.lv (d + 1) N.length], { s with b := upd s.b (d + 1) (some (.box (N.map UR))) }) := by
 have hfl : ∀ M : List (List Int), ((M.map UR).map V.flat).flatten = M.map UR := by
   intro M
   induction M with
   | nil => rfl
   | cons r M ih =>
     rw [List.map_cons, List.map_cons, List.flatten_cons, ih]
     rfl
 have e : uMakeN s (d + 1) (.uq 1 (N.map UR)) = some (.bref s.lv (d + 1) N.length, { s with b := upd s.b (d + 1) (some (.box (N.map UR))) }) := by
   cases N with
   | nil => exact absurd rfl hN
   | cons r N =>
     have e1 := hfl (r :: N)
     have e2 : flatPure ((r :: N).map UR) = false := by
       unfold flatPure
       rw [e1]
       simp [UR, pureC]
     have e3 : ((r :: N).map UR).all cellU = true := by
       rw [List.all_eq_true]
       intro v hv
       obtain ⟨x, _, rfl⟩ := List.mem_map.1 hv
       rfl
     rw [List.map_cons] at e1 e2 e3 ⊢
     unfold uMakeN
     dsimp only
     rw [e2, e1, e3, h]
     simp
 unfold uMakesN
 have e0 : uMakesN s (d + 1) [.uq 1 (N.map UR)] = some ([.bref s.lv (d + 1) N.length], { s with b := upd s.b (d + 1) (some (.box (N.map UR))) }) := by
   unfold uMakesN
   have : uMakesN s (d + 1 + 1) [] = some ([], s) := rfl
   rw [this]
   dsimp only
   rw [e]
   rfl
 rw [e0]
 rfl
attribute [go_sem high] uMakesN_auto
theorem peekR_UR (s : St) (n : Nat) (r : List Int) : peekR s n (UR r) = some (IL r) := by
 have : peekR s n (UR r) = some (V.ice (UR r)) := by cases n <;> rfl
 rw [this]
 have := ice_UR [r]
 simp only [List.map_cons, List.map_nil, List.cons.injEq, and_true] at this
 rw [this]
theorem peekR_URs (s : St) (n : Nat) (N : List (List Int)) : mapOpt (peekR s n) (N.map UR) = some (N.map IL) := by
 induction N with
 | nil => rfl
 | cons r N ih =>
   rw [List.map_cons]
   unfold mapOpt
   rw [peekR_UR, ih]
   rfl
theorem peekW_auto {s : St} {b : Bool} {L : List V} {lv u n : Nat} {cs ds : List V} (hl : lv = s.lv) (h : s.b u = some (.box cs)) (hn : cs.length = n) (hm : mapOpt (peekR s 8) cs = some ds) : peekW s (.agg [.slc b 1 L, .bref lv u n]) = some (.agg [.slc false 1 L, .slc false 1 ds]) := by
 have e2 : peekR s 9 (.bref lv u n) = some (.slc false 1 ds) := by
   unfold peekR
   rw [if_pos hl, h]
   dsimp only
   rw [if_pos hn, hm]
   rfl
 have e1 : peekR s 9 (.slc b 1 L) = some (.slc false 1 L) := by
   unfold peekR
   rfl
 unfold peekW
 dsimp only
 unfold mapOpt
 rw [e1]
 unfold mapOpt
 rw [e2]
 rfl
theorem peekR_aref {s : St} {lv t k n sz : Nat} {b : Bool} {l : List V} (hl : lv = s.lv) (h : s.b t = some (.arr b sz l)) (hk : l.length = k) : peekR s (n + 1) (.aref lv t k) = some (.slc false sz l) := by
 unfold peekR
 rw [if_pos hl, h]
 dsimp only
 rw [if_pos hk]
theorem peek_row {s : St} {n : Nat} {c0 d0 : V} {N : List (List Int)} (h : peekR s n c0 = some d0) : mapOpt (peekR s n) (c0 :: N.map UR) = some (d0 :: N.map IL) := by
 unfold mapOpt
 rw [h, peekR_URs]
theorem peek_fin {Q : Rs → Prop} {s : St} {b : Bool} {L : List V} {lv u n : Nat} {cs ds : List V} (hl : lv = s.lv) (h : s.b u = some (.box cs)) (hn : cs.length = n) (hm : mapOpt (peekR s 8) cs = some ds) (hq : Q (some (.agg [.slc false 1 L, .slc false 1 ds], s.o))) : Q (endL (Option.map (fun x => (x, s)) (peekW s (.agg [.slc b 1 L, .bref lv u n])))) := by
 rw [peekW_auto hl h hn hm]
 exact hq
theorem dBent (l : List Int) (hl : l.length ≤ 1048576) (t lv : Nat) : Draws EE 15 [] l t lv fun v => ∃ x : Dfa, x.accept.length ≤ 100 ∧ x.next.length ≤ 100 ∧ (∀ r ∈ x.next, r.length ≤ 100) ∧ v = x.enc := by
 refine Draws.mk fun o hc hlt Q hQ => ?_
 have hne : ¬ lv = o.length := by omega
 obtain ⟨_, ob, ⟨A, N, hA1, hA5, hN, hR, rfl⟩, hc2, hr⟩ := (dDraw 5 (by decide) (by decide) l hl t lv).at0 hc (upd n0 2 (some (Ob.box [.slc true 1 [], .slc true 1 []])))
 have hN0 : N ≠ [] := fun e => by rw [e] at hN; simp at hN; omega
 obtain ⟨_, ob2, ⟨x, x0, x1, rfl⟩, hc3, hr2⟩ := (uBelow 12 (by decide) (by decide) l hl).at hc2
 have hr' : run EE 17 [.ptr lv t 0, .int .i64 5] _ = _ := hr
 unfold drawnA at hr'
 rw [run_eq EE 15 _ _ Try.func15 (by decide +kernel) rfl (show 1 ≤ _ by decide)]
 dsimp only [Try.f15]
 simp only [go_sem, hr', hr2, hne, setIn_len, hN0, Nat.le_refl]
 obtain ⟨r0, N1, rfl⟩ := List.exists_cons_of_ne_nil hN0
 obtain ⟨a, b, c, rfl⟩ : ∃ a b c, r0 = [a, b, c] := by
   have := hR r0 (List.mem_cons_self ..)
   match r0, this with
   | [a, b, c], _ => exact ⟨a, b, c, rfl⟩
 have hf : flatPure [.int .i64 a, .int .i64 b, .int .i64 c] = true := rfl
 have k0 : (0 : Int) < ((N1.length + 1 : Nat) : Int) := by omega
 by_cases g0 : x = 0
 · subst g0
   simp only [go_sem, UR, I]
   rw [q_drawn]
   rotate_left
   · kernel_rfl
   simp only [go_sem, still, hne, setIn_len, hf, UR, I, k0, Nat.zero_lt_succ, Nat.le_refl]
   refine peek_fin (by show o.length = (setIn t ob2 lv o).length; rw [setIn_len]) rfl (by simp) (peek_row (d0 := IL [(A.length : Int), b, c]) ?_) ?_
   · exact peekR_aref (by show o.length = (setIn t ob2 lv o).length; rw [setIn_len]) rfl rfl
   exact hQ _ _ ⟨⟨A, [(A.length : Int), b, c] :: N1⟩, by show A.length ≤ 100; omega, by show ([(A.length : Int), b, c] :: N1).length ≤ 100; simp at hN ⊢; omega, fun r hr => by
     rcases List.mem_cons.1 hr with rfl | hr
     · show 3 ≤ 100; decide
     · have := hR r (List.mem_cons_of_mem _ hr); omega, rfl⟩ hc3
 have b0 : (x == 0) = false := by simpa using g0
 by_cases g1 : x = 1
 · subst g1
   have a1 : (A.length + 1) * 1 ≤ 140737488355328 := by omega
   simp only [go_sem, hne, setIn_len, b0, a1, Nat.le_refl]
   have eA : A.map B ++ [V.bool true] = (A ++ [true]).map B := by rw [List.map_append]; rfl
   rw [eA]
   refine peek_fin (by show o.length = (setIn t ob2 lv o).length; rw [setIn_len]) rfl (by simp) (peek_row (peekR_UR _ _ [a, b, c])) ?_
   exact hQ _ _ ⟨⟨A ++ [true], [a, b, c] :: N1⟩, by show (A ++ [true]).length ≤ 100; rw [List.length_append]; simp; omega, by show ([a, b, c] :: N1).length ≤ 100; omega, fun r hr => by have := hR r hr; omega, rfl⟩ hc3
 have b1 : (x == 1) = false := by simpa using g1
 by_cases g2 : x = 2
 · subst g2
   simp only [go_sem, b0, b1, UR, I]
   rw [q_drawn]
   rotate_left
   · kernel_rfl
   simp only [go_sem, still, hne, setIn_len, UR, I, k0, Nat.le_refl]
   refine peek_fin (by show o.length = (setIn t ob2 lv o).length; rw [setIn_len]) rfl (by simp) (peek_row (peekR_UR _ _ [a, b, c, 0])) ?_
   exact hQ _ _ ⟨⟨A, [a, b, c, 0] :: N1⟩, by show A.length ≤ 100; omega, by show ([a, b, c, 0] :: N1).length ≤ 100; simp at hN ⊢; omega, fun r hr => by
     rcases List.mem_cons.1 hr with rfl | hr
     · show 4 ≤ 100; decide
     · have := hR r (List.mem_cons_of_mem _ hr); omega, rfl⟩ hc3
 have b2 : (x == 2) = false := by simpa using g2
 simp only [go_sem, hne, setIn_len, b0, b1, b2, Nat.le_refl]
 refine peek_fin (by show o.length = (setIn t ob2 lv o).length; rw [setIn_len]) rfl (by simp) (peek_row (peekR_UR _ _ [a, b, c])) ?_
 exact hQ _ _ ⟨⟨A, [a, b, c] :: N1⟩, by show A.length ≤ 100; omega, by show ([a, b, c] :: N1).length ≤ 100; omega, fun r hr => by have := hR r hr; omega, rfl⟩ hc3
end Go.Ev
namespace Go.Ev
open Go Go.Proofs
set_option maxRecDepth 10000
set_option maxHeartbeats 4000000

theorem r13 (l : List Int) (hl : l.length ≤ 1048576) : ∃ h : Int, run EE 13 [.slc false 1 (l.map U8)] [] = some (.nw [.slc false 1 (l.map U8), .int .i64 0, .int .i64 h], []) := by
 suffices H : ∀ Q : Rs → Prop, (∀ h : Int, Q (some (.nw [.slc false 1 (l.map U8), .int .i64 0, .int .i64 h], []))) → Q (run EE 13 [.slc false 1 (l.map U8)] []) from
   H (fun r => ∃ h : Int, r = some (.nw [.slc false 1 (l.map U8), .int .i64 0, .int .i64 h], [])) fun h => ⟨h, rfl⟩
 intro Q hQ
 rw [run_eq EE 13 _ _ Try.func13 (by decide +kernel) rfl (show 1 ≤ _ by decide)]
 dsimp only [Try.f13]
 simp only [go_sem, List.length_map]
 refine iter_ex (fun x : Nat × Int => x.1 ≤ l.length) (fun x => { t := upd (upd (upd e0 4 (.int .i64 (x.1 : Int))) 3 (.int .i64 x.2)) 0 (.slc false 1 (l.map U8)), b := n0, o := [], r := #[ResultVar.tmp 2], f := 13, n := 32 }) Q (fun x => l.length - x.1) ?_ (0, IntKind.i64.wrap (26583 + (l.length : Int))) (Nat.zero_le _)
 rintro ⟨k, h⟩ hk ih
 dsimp only at hk ⊢
 have fin : Q (some (.nw [.slc false 1 (l.map U8), .int .i64 0, .int .i64 h], [])) := hQ h
 by_cases hh : k < l.length
 rotate_left
 · have k1 : ¬ (k : Int) < l.length := by omega
   simp only [go_sem, List.length_map, k1]
   exact fin
 have k1 : (k : Int) < l.length := by omega
 have k0 : (0 : Int) ≤ k := by omega
 have wk := wrap_nat (n := k) (by omega)
 by_cases h4 : (k : Int) < 4000
 rotate_left
 · simp only [go_sem, List.length_map, k1, h4]
   exact fin
 have ihn := fun h' => ih (k + 1, h') hh (by show l.length - (k + 1) < l.length - k; omega)
 dsimp only at ihn
 simp only [go_sem, ↓arith_and64, List.length_map, k1, k0, h4, getD_U8 _ hh, wk, toNat_cast]
 exact ihn _
theorem DrawsU.of {E : Env} {f : Nat} {args : List V} {l : List Int} {P : V → Prop} (h : DrawsU E f args l P) {i : Nat} (hi : i ≤ l.length) (x : Int) : ∃ v i' h', P v ∧ i' ≤ l.length ∧ ∀ (t lv : Nat) (o : List (Nat → Option Ob)), obIn t lv o = some (cur l i x) → run E f (.ptr lv t 0 :: args) o = some (v, setIn t (cur l i' h') lv o) := h i x hi
theorem r5 (l : List Int) (hl : l.length ≤ 1048576) : ∃ (x : Dfa) (s : ByteArray), x.accept.length ≤ 100 ∧ x.next.length ≤ 100 ∧ (∀ r ∈ x.next, r.length ≤ 100) ∧ s.size ≤ 40 ∧ run EE 5 [.slc false 1 (l.map U8)] [] = some (.tup [x.enc, .str s], []) := by
 suffices H : ∀ Q : Rs → Prop, (∀ (x : Dfa) (s : ByteArray), x.accept.length ≤ 100 → x.next.length ≤ 100 → (∀ r ∈ x.next, r.length ≤ 100) → s.size ≤ 40 → Q (some (.tup [x.enc, .str s], []))) → Q (run EE 5 [.slc false 1 (l.map U8)] []) from
   H (fun r => ∃ (x : Dfa) (s : ByteArray), x.accept.length ≤ 100 ∧ x.next.length ≤ 100 ∧ (∀ r ∈ x.next, r.length ≤ 100) ∧ s.size ≤ 40 ∧ r = some (.tup [x.enc, .str s], [])) fun x s h1 h2 h3 h4 => ⟨x, s, h1, h2, h3, h4, rfl⟩
 intro Q hQ
 obtain ⟨h, hn⟩ := r13 l hl
 obtain ⟨_, ob, ⟨b, rfl⟩, hc, hr⟩ := ((uOnce 10 (by decide) (by decide) l hl).to 4 0) [upd (upd n0 2 (some (Ob.box [.slc true 1 [], .slc true 1 []]))) 4 (some (Ob.box [.slc false 1 (l.map U8), .int .i64 0, .int .i64 h]))] ⟨0, h, Nat.zero_le _, rfl⟩
 have e1 : ∀ ob, setIn 4 ob 0 [upd (upd n0 2 (some (Ob.box [.slc true 1 [], .slc true 1 []]))) 4 (some (Ob.box [.slc false 1 (l.map U8), .int .i64 0, .int .i64 h]))] = [upd (upd (upd n0 2 (some (Ob.box [.slc true 1 [], .slc true 1 []]))) 4 (some (Ob.box [.slc false 1 (l.map U8), .int .i64 0, .int .i64 h]))) 4 (some ob)] := fun _ => rfl
 rw [e1] at hr hc
 have e2 : ∀ ob ob', setIn 4 ob' 0 [upd (upd (upd n0 2 (some (Ob.box [.slc true 1 [], .slc true 1 []]))) 4 (some (Ob.box [.slc false 1 (l.map U8), .int .i64 0, .int .i64 h]))) 4 (some ob)] = [upd (upd (upd (upd n0 2 (some (Ob.box [.slc true 1 [], .slc true 1 []]))) 4 (some (Ob.box [.slc false 1 (l.map U8), .int .i64 0, .int .i64 h]))) 4 (some ob)) 4 (some ob')] := fun _ _ => rfl
 rw [run_eq EE 5 _ _ Try.func5 (by decide +kernel) rfl (show 1 ≤ _ by decide)]
 dsimp only [Try.f5]
 simp only [go_sem, hn, hr]
 cases b with
 | true =>
   obtain ⟨_, ob2, ⟨x, x1, x2, x3, rfl⟩, hc2, hr2⟩ := dBent l hl 4 0 _ hc
   rw [e2] at hr2 hc2
   obtain ⟨_, ob3, ⟨s, s1, rfl⟩, hc3, hr3⟩ := dAny l hl 4 0 _ hc2
   have e3 : ∀ ob'', setIn 4 ob'' 0 [upd (upd (upd (upd n0 2 (some (Ob.box [.slc true 1 [], .slc true 1 []]))) 4 (some (Ob.box [.slc false 1 (l.map U8), .int .i64 0, .int .i64 h]))) 4 (some ob)) 4 (some ob2)] = [upd (upd (upd (upd (upd n0 2 (some (Ob.box [.slc true 1 [], .slc true 1 []]))) 4 (some (Ob.box [.slc false 1 (l.map U8), .int .i64 0, .int .i64 h]))) 4 (some ob)) 4 (some ob2)) 4 (some ob'')] := fun _ => rfl
   rw [e3] at hr3
   have hr2' : run EE 15 [.ptr 0 4 0] _ = _ := hr2
   have hr3' : run EE 16 [.ptr 0 4 0] _ = _ := hr3
   simp only [go_sem, hr2', hr3']
   exact hQ x s x1 x2 x3 s1
 | false =>
   obtain ⟨_, ob2, ⟨A, N, hA1, hA5, hN, hR, rfl⟩, hc2, hr2⟩ := dDraw 5 (by decide) (by decide) l hl 4 0 _ hc
   rw [e2] at hr2 hc2
   obtain ⟨_, ob3, ⟨s, s1, rfl⟩, hc3, hr3⟩ := dWord 4 (by decide) l hl 4 0 _ hc2
   have e3 : ∀ ob'', setIn 4 ob'' 0 [upd (upd (upd (upd n0 2 (some (Ob.box [.slc true 1 [], .slc true 1 []]))) 4 (some (Ob.box [.slc false 1 (l.map U8), .int .i64 0, .int .i64 h]))) 4 (some ob)) 4 (some ob2)] = [upd (upd (upd (upd (upd n0 2 (some (Ob.box [.slc true 1 [], .slc true 1 []]))) 4 (some (Ob.box [.slc false 1 (l.map U8), .int .i64 0, .int .i64 h]))) 4 (some ob)) 4 (some ob2)) 4 (some ob'')] := fun _ => rfl
   rw [e3] at hr3
   have hr2' : run EE 17 [.ptr 0 4 0, .int .i64 5] _ = _ := hr2
   have hr3' : run EE 18 [.ptr 0 4 0, .int .i64 4] _ = _ := hr3
   unfold drawnA at hr2'
   have hN0 : N ≠ [] := fun e => by rw [e] at hN; simp at hN; omega
   simp only [go_sem, hr2', hr3']
   exact hQ ⟨A, N⟩ s (by show A.length ≤ 100; omega) (by show N.length ≤ 100; omega) (fun r hr => by have := hR r hr; omega) (by omega)
end Go.Ev
namespace Go.Ev
open Go Go.Proofs
set_option maxRecDepth 10000
set_option maxHeartbeats 4000000

theorem r30 (n : Nat) (hn : n ≤ 5) : ∃ ws : List ByteArray, ws.length ≤ 243 ∧ (∀ w ∈ ws, w.size ≤ 5) ∧ run EE 30 [.int .i64 n] [] = some (.slc false 1 (ws.map V.str), []) := by
 suffices H : ∀ Q : Rs → Prop, (∀ ws : List ByteArray, ws.length ≤ 243 → (∀ w ∈ ws, w.size ≤ 5) → Q (some (.slc false 1 (ws.map V.str), []))) → Q (run EE 30 [.int .i64 n] []) from
   H (fun x => ∃ ws : List ByteArray, ws.length ≤ 243 ∧ (∀ w ∈ ws, w.size ≤ 5) ∧ x = some (.slc false 1 (ws.map V.str), [])) fun ws h1 h2 => ⟨ws, h1, h2, rfl⟩
 intro Q hQ
 have q1 := r41 n 0 5
 have d1 : (decide ((0 : Int) ≤ n) && decide ((n : Int) ≤ 5)) = true := by
   rw [Bool.and_eq_true, decide_eq_true_eq, decide_eq_true_eq]; omega
 rw [d1] at q1
 rw [run_eq EE 30 _ _ Try.func30 (by decide +kernel) rfl (show 1 ≤ _ by decide)]
 dsimp only [Try.f30]
 simp only [go_sem, q1]
 refine iter_ex (fun x : Nat × List ByteArray => x.1 ≤ n ∧ x.2.length = 3 ^ x.1 ∧ ∀ w ∈ x.2, w.size = x.1) (fun x => { t := upd (upd (upd e0 4 (.int .i64 (x.1 : Int))) 3 (.slc false 1 (x.2.map V.str))) 0 (.int .i64 (n : Int)), b := n0, o := [], r := #[ResultVar.tmp 2], f := 30, n := 43 }) Q (fun x => n - x.1) ?_ (0, [⟨#[]⟩]) ⟨Nat.zero_le _, rfl, by intro w hw; obtain rfl := List.mem_singleton.1 hw; rfl⟩
 rintro ⟨k, ws⟩ ⟨hk, hl, hs⟩ ih
 dsimp only at hk hl hs ⊢
 have hp : 3 ^ k ≤ 243 := by
   have := Nat.pow_le_pow_right (show 0 < 3 by decide) (show k ≤ 5 by omega)
   omega
 by_cases hh : k < n
 rotate_left
 · have k1 : ¬ (k : Int) < n := by omega
   have fin := hQ ws (by omega) (fun w hw => by rw [hs w hw]; omega)
   simp only [go_sem, k1]
   exact fin
 have k1 : (k : Int) < n := by omega
 have wk := wrap_nat (n := k) (by omega)
 simp only [go_sem, k1]
 refine iter_ex (fun x : Nat × List ByteArray => x.1 ≤ ws.length ∧ x.2.length = 3 * x.1 ∧ ∀ w ∈ x.2, w.size = k + 1) (fun x => { t := upd (upd (upd (upd (upd e0 6 (.int .i64 (x.1 : Int))) 5 (.slc true 1 (x.2.map V.str))) 4 (.int .i64 (k : Int))) 3 (.slc false 1 (ws.map V.str))) 0 (.int .i64 (n : Int)), b := n0, o := [], r := #[ResultVar.tmp 2], f := 30, n := 43 }) Q (fun x => ws.length - x.1) ?_ (0, []) ⟨Nat.zero_le _, rfl, by intro w hw; cases hw⟩
 rintro ⟨i, nx⟩ ⟨hi, hn1, hn2⟩ ih2
 dsimp only at hi hn1 hn2 ⊢
 by_cases hh2 : i < ws.length
 rotate_left
 · have k2 : ¬ (i : Int) < ws.length := by omega
   have e : i = ws.length := by omega
   have := ih (k + 1, nx) ⟨hh, by show nx.length = 3 ^ (k + 1); rw [hn1, e, hl, Nat.pow_succ]; omega, hn2⟩ (by show n - (k + 1) < n - k; omega)
   dsimp only at this
   simp only [go_sem, k2, List.length_map, wk]
   exact this
 have k2 : (i : Int) < ws.length := by omega
 have wi := wrap_nat (n := i) (by omega)
 simp only [go_sem, k2, List.length_map]
 refine iter_ex (fun x : Nat × List ByteArray => x.1 ≤ 3 ∧ x.2.length = 3 * i + x.1 ∧ ∀ w ∈ x.2, w.size = k + 1) (fun x => { t := upd (upd (upd (upd (upd (upd e0 7 (.int .i64 (x.1 : Int))) 6 (.int .i64 (i : Int))) 5 (.slc true 1 (x.2.map V.str))) 4 (.int .i64 (k : Int))) 3 (.slc false 1 (ws.map V.str))) 0 (.int .i64 (n : Int)), b := n0, o := [], r := #[ResultVar.tmp 2], f := 30, n := 43 }) Q (fun x => 3 - x.1) ?_ (0, nx) ⟨Nat.zero_le _, hn1, hn2⟩
 rintro ⟨j, nx⟩ ⟨hj, hm1, hm2⟩ ih3
 dsimp only at hj hm1 hm2 ⊢
 by_cases hh3 : j < 3
 rotate_left
 · have k3 : ¬ (j : Int) < 3 := by omega
   have := ih2 (i + 1, nx) ⟨hh2, by show nx.length = 3 * (i + 1); omega, hm2⟩ (by show ws.length - (i + 1) < ws.length - i; omega)
   dsimp only at this
   simp only [go_sem, k3, wi]
   exact this
 have k3 : (j : Int) < 3 := by omega
 have j0 : (0 : Int) ≤ j := by omega
 have i0 : (0 : Int) ≤ i := by omega
 have e3 : (ByteArray.mk #[97, 98, 99]).size = 3 := rfl
 have k4 : ((j + 1 : Nat) : Int) ≤ (ByteArray.mk #[97, 98, 99]).size := by rw [e3]; omega
 have k5 : (j : Int) ≤ ((j + 1 : Nat) : Int) := by omega
 have wj := wrap_nat (n := j) (by omega)
 have hz : (ByteArray.extract ⟨#[97, 98, 99]⟩ j (j + 1)).size = 1 := by rw [ByteArray.size_extract]; omega
 have hw := hs _ (List.getElem_mem hh2)
 have q3 : ¬ ((ws[i].size + (ByteArray.extract ⟨#[97, 98, 99]⟩ j (j + 1)).size : Nat) : Int) > 9223372036854775807 := by omega
 have a1 : (nx.length + 1) * 16 ≤ 140737488355328 := by omega
 have := ih3 (j + 1, nx ++ [ws[i] ++ ByteArray.extract ⟨#[97, 98, 99]⟩ j (j + 1)]) ⟨hh3, by simp only [List.length_append, List.length_cons, List.length_nil]; omega, fun w hw' => by
   rcases List.mem_append.1 hw' with h | h
   · exact hm2 w h
   · obtain rfl := List.mem_singleton.1 h
     rw [ByteArray.size_append]; omega⟩ (by show 3 - (j + 1) < 3 - j; omega)
 simp only [List.map_append, List.map_cons, List.map_nil] at this
 simp only [go_sem, k3]
 rw [q_drs]
 rotate_left
 · kernel_rfl
 simp only [go_sem, k2, k4, k5, j0, i0, wj, q3, a1, getD_str hh2, List.length_map, toNat_cast]
 exact this
theorem r11 (n : Nat) (hn : n ≤ 5) : ∃ ws : List ByteArray, ws.length ≤ 10000 ∧ (∀ w ∈ ws, w.size ≤ 5) ∧ run EE 11 [.int .i64 n] [] = some (.slc true 1 (ws.map V.str), []) := by
 suffices H : ∀ Q : Rs → Prop, (∀ ws : List ByteArray, ws.length ≤ 10000 → (∀ w ∈ ws, w.size ≤ 5) → Q (some (.slc true 1 (ws.map V.str), []))) → Q (run EE 11 [.int .i64 n] []) from
   H (fun x => ∃ ws : List ByteArray, ws.length ≤ 10000 ∧ (∀ w ∈ ws, w.size ≤ 5) ∧ x = some (.slc true 1 (ws.map V.str), [])) fun ws h1 h2 => ⟨ws, h1, h2, rfl⟩
 intro Q hQ
 rw [run_eq EE 11 _ _ Try.func11 (by decide +kernel) rfl (show 1 ≤ _ by decide)]
 dsimp only [Try.f11]
 simp only [go_sem]
 refine iter_ex (fun x : Nat × List ByteArray => x.1 ≤ n + 1 ∧ x.2.length ≤ 243 * x.1 ∧ ∀ w ∈ x.2, w.size ≤ 5) (fun x => { t := upd (upd (upd e0 4 (.int .i64 (x.1 : Int))) 3 (.slc true 1 (x.2.map V.str))) 0 (.int .i64 (n : Int)), b := n0, o := [], r := #[ResultVar.tmp 2], f := 11, n := 20 }) Q (fun x => n + 1 - x.1) ?_ (0, []) ⟨Nat.zero_le _, Nat.le_refl _, by intro w hw; cases hw⟩
 rintro ⟨k, ws⟩ ⟨hk, hl, hs⟩ ih
 dsimp only at hk hl hs ⊢
 by_cases hh : k ≤ n
 rotate_left
 · have k1 : ¬ (k : Int) ≤ n := by omega
   have fin := hQ ws (by omega) hs
   simp only [go_sem, k1]
   exact fin
 have k1 : (k : Int) ≤ n := by omega
 have k2 : (k : Int) ≤ 5 := by omega
 have wk := wrap_nat (n := k) (by omega)
 obtain ⟨ws2, g1, g2, g3⟩ := r30 k (by omega)
 have a1 : (ws.length + ws2.length) * 16 ≤ 140737488355328 := by omega
 have := ih (k + 1, ws ++ ws2) ⟨by show k + 1 ≤ n + 1; omega, by show (ws ++ ws2).length ≤ _; rw [List.length_append]; omega, fun w hw => by
   rcases List.mem_append.1 hw with h | h
   · exact hs w h
   · exact g2 w h⟩ (by show n + 1 - (k + 1) < n + 1 - k; omega)
 simp only [List.map_append] at this
 simp only [go_sem, k1, k2, g3, a1, wk, List.length_map]
 exact this
end Go.Ev
