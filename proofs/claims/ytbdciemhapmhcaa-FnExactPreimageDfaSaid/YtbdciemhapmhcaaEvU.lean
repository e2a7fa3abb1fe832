/- Words read, the reference's; right quotients. Morphisms, the empty expression, validity of expressions. Preimages. Copies of automata that nobody else sees. Marks: rows of truths and numbers marked, and held. Marks: rows of rows, automata. Automata in memory, marked. What the laws of automata share. -/
import Derived.Test.YtbdciemhapmhcaaEvT
import Derived.Test.YtbdciemhapmhcaaEvO
import Derived.Test.YtbdciemhapmhcaaEvQ
import Derived.Test.YtbdciemhapmhcaaEvN
import Derived.Test.YtbdciemhapmhcaaEvS
import Derived.Test.YtbdciemhapmhcaaEvP
set_option linter.unusedVariables false
set_option linter.unusedSimpArgs false
namespace Go.Ev
open Go Go.Proofs
set_option maxRecDepth 10000
set_option maxHeartbeats 4000000
set_option linter.unusedVariables false
set_option linter.unusedSimpArgs false

theorem r49 (d : DN) (hv : Val d) (s : ByteArray) (hs : s.size ≤ 1048576) (hw : isWord s = true) (q : Nat) (hq : q < d.accept.length) : run EE 49 [d.enc, .int .i64 q, .str s] [] = some (.tup [.int .i64 (walk d s q 0), .bool true], []) := by
  have hd := hv.ok
  have hl := ltrs_word hw
  have hle := hv.le
  have hps := hv.pos
  have iv := r46 d.dfa (by show d.accept.length ≤ _; omega) (by show (d.next.map _).length ≤ _; rw [List.length_map, hd.1]; omega) (by
    intro r hr
    obtain ⟨t, _, rfl⟩ := List.mem_map.1 hr
    show 3 ≤ 1048576; decide)
  rw [DN.dfa_enc, hv.valid] at iv
  have iw := r47 s (by omega)
  rw [hw] at iw
  have ii := r96 (q : Int) 0 ((d.accept.length : Int) - 1)
  have w0 : IntKind.i64.wrap ((d.accept.length : Int) - 1) = (d.accept.length : Int) - 1 := wrap_in (by omega) (by omega)
  have c0 : (decide ((0 : Int) ≤ q) && decide ((q : Int) ≤ (d.accept.length : Int) - 1)) = true := by
    rw [Bool.and_eq_true, decide_eq_true_eq, decide_eq_true_eq]; omega
  rw [c0] at ii
  simp only [DN.enc] at iv
  rw [run_eq EE 49 _ _ Try.func49 (by decide +kernel) rfl (show 3 ≤ _ by decide)]
  dsimp only [Try.f49]
  simp only [go_sem, iv, iw, ii, w0, Bool.not_true]
  refine iter_inv (fun x : Nat × Nat => x.1 < d.accept.length) (fun x => { t := upd (upd (upd (upd e0 9 (.int .i64 x.2)) 8 (.int .i64 x.1)) 3 (.ptr 0 3 0)) 2 (.str s), b := upd n0 3 (some (Ob.box [.slc false 1 (d.accept.map B), .slc false 1 (d.next.map NT)])), o := [], r := #[ResultVar.tmp 6, ResultVar.tmp 7], f := 49, n := 46 }) (fun x => some (.tup [.int .i64 (walk d s x.1 x.2), .bool true], [])) (fun x => s.size - x.2) ?_ (q, 0) hq
  rintro ⟨p, i⟩ hp ih
  dsimp only at hp ⊢
  by_cases h : i < s.size
  rotate_left
  · have k1 : ¬ (i : Int) < s.size := by omega
    rw [walk_end h]
    simp only [go_sem, k1]
  have k1 : (i : Int) < s.size := by omega
  have w := wrap_nat (n := i) (by omega)
  have p1 : (p : Int) < d.next.length := by rw [hd.1]; omega
  have g1 : ∀ v : V, (d.next.map NT).getD p v = NT (d.nx p) := fun v => getD_NT (by rw [hd.1]; exact hp) v
  have li := r104 (bt s i)
  have ihn := ih (nxL (d.nx p) (bt s i), i + 1) (nxL_lt hd hp _) (by dsimp only; omega)
  rw [walk_next h]
  dsimp only at ihn
  generalize hA : d.nx p = A at g1 ihn ⊢
  simp only [go_sem, k1]
  rw [q_drawn]
  rotate_left
  · kernel_rfl
  rcases ltr_of (isLtr_abc (hl i h)) A with ⟨c, e, n⟩ | ⟨c, e, n⟩ | ⟨c, e, n⟩
  all_goals
    rw [e] at li
    rw [n] at ihn ⊢
    simp only [go_sem, k1, li, p1, g1, w]
    exact ihn
theorem uqL_m {α : Type} (f : α → V) {l : List α} (h : l ≠ []) : uqL (l.map f) = .uq 1 (l.map f) := uqL_map f h
theorem r48 (d : DN) (hv : Val d) : run EE 48 [d.enc] [] = some (d.encD, []) := by
  have hd := hv.ok
  have hle := hv.le
  have hps := hv.pos
  have hn := hd.1
  have a1 : d.accept.length * 1 ≤ 140737488355328 := by omega
  unfold DN.encD
  rw [run_eq EE 48 _ _ Try.func48 (by decide +kernel) rfl (show 1 ≤ _ by decide)]
  dsimp only [Try.f48]
  simp only [go_sem, a1]
  refine iter_inv (fun i : Nat => i ≤ d.next.length) (fun i => { t := upd (upd (upd (upd e0 4 (.int .i64 i)) 3 (.ptr 0 3 0)) 2 (.ptr 0 2 0)) 1 (.ptr 0 1 0), b := upd (upd (upd n0 3 (some (Ob.box [.uq 1 (d.accept.map B), uqL ((d.next.take i).map NU)]))) 2 (some (Ob.box [.slc true 1 [], .slc true 1 []]))) 1 (some (Ob.box [.slc false 1 (d.accept.map B), .slc false 1 (d.next.map NT)])), o := [], r := #[ResultVar.cell 2 27], f := 48, n := 30 }) (fun _ => some (.agg [.uq 1 (d.accept.map B), .uq 1 (d.next.map NU)], [])) (fun i => d.next.length - i) ?_ 0 (Nat.zero_le _)
  intro i hi ih
  by_cases h : i < d.next.length
  rotate_left
  · have k1 : ¬ (i : Int) < d.next.length := by omega
    rw [List.take_of_length_le (by omega), uqL_m _ (fun e => by rw [e] at hn; simp at hn; omega)]
    simp only [go_sem, k1]
  have k1 : (i : Int) < d.next.length := by omega
  have w := wrap_nat (n := i) (by omega)
  have ihn := ih (i + 1) (by omega) (by omega)
  rw [uqL_m _ (fun e => by have := congrArg List.length e; rw [List.length_take, List.length_nil] at this; omega), take_snoc h, List.map_append, List.map_cons, List.map_nil] at ihn
  have hg : ∀ v : V, (d.next.map NT).getD i v = NT d.next[i] := fun v => getD_map h v
  generalize d.next[i] = t at hg ihn
  have a2 : (min i d.next.length + 1) * 24 ≤ 140737488355328 := by omega
  simp only [go_sem, k1]
  rw [q_drawn]
  rotate_left
  · kernel_rfl
  by_cases hi0 : i = 0
  · have ht0 : d.next.take i = [] := by rw [hi0]; rfl
    have ez2 : uqL (([] : List (Nat × Nat × Nat)).map NU) = .slc true 1 [] := rfl
    have m3 : ((0 : Nat) + 1) * 24 ≤ 140737488355328 := by decide
    rw [ht0] at ihn ⊢
    rw [ez2]
    simp only [List.map_nil, List.nil_append] at ihn
    simp only [go_sem, still, k1, hg, a2, m3, eq_self, w]
    exact ihn
  · have hti : d.next.take i ≠ [] := fun e => by
      have := congrArg List.length e
      rw [List.length_take, List.length_nil] at this
      omega
    rw [uqL_m _ hti]
    simp only [go_sem, still, k1, hg, a2, eq_self, w]
    exact ihn
section
attribute [-go_sem] uMakes uMakes_acc peekC_aref
theorem r9 (x : Dfa) (s : ByteArray) (h1 : x.accept.length ≤ 1048576) (h2 : x.next.length ≤ 1048576) (h3 : ∀ r ∈ x.next, r.length ≤ 1048576) (hs : s.size ≤ 1048576) : run EE 9 [x.enc, .str s] [] = some (rqR x s, []) := by
  have iv := r46 x h1 h2 h3
  have iw := r47 s (by omega)
  simp only [Dfa.enc] at iv
  unfold rqR
  rw [run_eq EE 9 _ _ Try.func9 (by decide +kernel) rfl (show 2 ≤ _ by decide)]
  dsimp only [Try.f9]
  cases hV : validD x
  · rw [hV] at iv
    rw [if_neg (by simp)]
    simp only [go_sem, iv, Bool.not_false]
  cases hw : isWord s
  · rw [hV] at iv
    rw [hw] at iw
    rw [if_neg (by simp)]
    simp only [go_sem, iv, iw, Bool.not_true, Bool.not_false]
  rw [hV] at iv
  rw [hw] at iw
  rw [if_pos ⟨rfl, rfl⟩]
  obtain ⟨hx, hv⟩ := validD_dn hV
  generalize x.dn = d at hx hv ⊢
  subst hx
  have hle := hv.le
  have hps := hv.pos
  have e1 : d.dfa.accept = d.accept := rfl
  have e2 : d.dfa.next.map IL = d.next.map NT := by unfold DN.dfa; rw [List.map_map]; rfl
  rw [e1, e2] at iv
  rw [DN.dfa_enc]
  have cp := r48 d hv
  simp only [DN.enc, DN.encD] at cp
  have hA : d.accept ≠ [] := fun e => by rw [e] at hps; exact absurd hps (by decide)
  have fA : (d.accept.length = 0) = False := eq_false (by omega)
  have ln : d.dfa.next.length = d.accept.length := by show (d.next.map _).length = _; rw [List.length_map, hv.ok.1]
  have hN : d.dfa.next.map List.length ≠ [] := fun e => by have := congrArg List.length e; rw [List.length_map, ln, List.length_nil] at this; omega
  have hN' : d.dfa.next ≠ [] := fun e => by rw [e] at ln; exact absurd ln (by simp only [List.length_nil]; omega)
  have eU : d.dfa.next.map UR = d.next.map NU := by show (d.next.map _).map UR = _; rw [List.map_map]; rfl
  simp only [go_sem, iv, iw, cp, Bool.not_true]
  generalize hb0 : (upd (upd (upd n0 2 _) 4 _) 6 _ : Nat → Option Ob) = b0
  have w0 : NoM b0 430 := hb0 ▸ (((NoM.n0 _).st (by decide) _).st (by decide) _).st (by decide) _
  have f0 : ∀ t, famD [431] t = true → b0 t = none := fun t ht => by
    rw [← hb0, upd_fam (by decide) _ ht, upd_fam (by decide) _ ht, upd_fam (by decide) _ ht]
    rfl
  have q2 := congrFun hb0.symm 2
  have q4 := congrFun hb0.symm 4
  have q6 := congrFun hb0.symm 6
  simp only [go_sem] at q2 q4 q6
  clear hb0
  obtain ⟨b1, mk1, x1, o1, ra⟩ := made2 b0 430 d.accept d.dfa.next w0 f0 (by decide)
  simp only [rowT, fA, if_false, ln, eU] at mk1
  rw [mk1]
  clear mk1
  replace q2 := o1.lo (by decide) q2
  replace q4 := o1.lo (by decide) q4
  replace q6 := o1.lo (by decide) q6
  have q430 := x1.acc hA
  have q431 := x1.dir hN'
  clear w0 f0 o1
  have fo : ∀ t o r f n H c, FamOk ⟨t, upd b1 6 c, o, r, f, n⟩ H [431] := fun t o r f n H c => (ra.st (by decide) c).famOk t o r f n H
  have fe : ∀ c g, famB [431] (upd b1 6 c) g = famB [431] (rowsB 431 d.dfa.next 0 n0) g := fun c g => (ra.st (by decide) c).fam g
  have hm0 : d.accept.map B = (mixA d s 0).map B := by rw [mixA_0]
  rw [hm0] at q430
  simp only [go_sem, q2, q4, q6, q430, q431, fo, fe]
  refine (iter_inv (fun i : Nat => i ≤ d.accept.length) (fun i => { t := upd (upd (upd (upd (upd e0 7 (.int .i64 i)) 6 (.ptr 0 6 0)) 4 (.ptr 0 4 0)) 2 (.ptr 0 2 0)) 1 (.str s), b := famB [431] (rowsB 431 d.dfa.next 0 n0) (upd (upd (upd (upd (upd n0 431 (some (Ob.dir 1 (refsR 0 431 (d.dfa.next.map List.length))))) 430 (some (Ob.arr false 1 ((mixA d s i).map B)))) 6 (some (Ob.box [.aref 0 430 d.accept.length, .aref 0 431 d.accept.length]))) 4 (some (Ob.box [.slc true 1 [], .slc true 1 []]))) 2 (some (Ob.box [.slc false 1 (d.accept.map B), .slc false 1 (d.next.map NT)]))), o := [], r := #[ResultVar.cell 4 27, ResultVar.tmp 5], f := 9, n := 46 }) (fun _ => some (.tup [(quotS (rqD d s) 0).encD, .bool true], [])) (fun i => d.accept.length - i) ?_ 0 (Nat.zero_le _))
  intro i hi ih
  by_cases h : i < d.accept.length
  rotate_left
  · have k1 : ¬ (i : Int) < d.accept.length := by omega
    obtain rfl : i = d.accept.length := by omega
    have lm := r50 (rqD d s) (rqD_ok hv.ok s) (by rw [rqD_len]; omega) (by rw [rqD_len]; omega)
    rw [minS_S (rqD_ok hv.ok s) (by rw [rqD_len]; omega)] at lm
    have er : (rqD d s).next = d.next := rfl
    simp only [DN.enc] at lm
    rw [er, ← mixA_all] at lm
    generalize quotS (rqD d s) 0 = Q at *
    simp only [DN.encD] at lm ⊢
    have hml := mixA_len d s d.accept.length
    have pk := fun g (ha : g 430 = some (.arr false 1 ((mixA d s d.accept.length).map B))) (hd : g 431 = some (.dir 1 (refsR 0 431 (d.dfa.next.map List.length)))) t r f n => peeked (dfaM_fam (u := 430) (A := mixA d s d.accept.length) (rows := d.dfa.next) (g := g) (by decide) (fun _ => ha) (fun _ => hd)) t r f n
    have px1 := fun g ha hd t r f n => (pk g ha hd t r f n).1
    have px2 := fun g ha hd t r f n => (pk g ha hd t r f n).2
    simp only [rowR, hml, fA, ln, if_false, e2] at px1 px2
    simp only [go_sem, k1, hml, px1, px2, lm]
  have k1 : (i : Int) < d.accept.length := by omega
  have w := wrap_nat (n := i) (by omega)
  have ihn := ih (i + 1) (by omega) (by omega)
  rw [← mixA_set d s h] at ihn
  have rd := r49 d hv s hs hw i h
  simp only [DN.enc] at rd
  have hwk := walk_lt hv.ok s _ i 0 (Nat.le_refl _) h
  have hga : ∀ v : V, (d.accept.map B).getD (walk d s i 0) v = B (rqA d s i) := fun v => getD_B hwk v
  have kw : ((walk d s i 0 : Nat) : Int) < d.accept.length := by omega
  have hml := mixA_len d s i
  simp only [go_sem, k1, rd]
  rw [q_drawn]
  rotate_left
  · kernel_rfl
  simp only [go_sem, still, k1, h, kw, hga, hml, eq_self, w]
  exact ihn
end
theorem r11 (x : Dfa) (s : ByteArray) (h1 : x.accept.length ≤ 1048576) (h2 : x.next.length ≤ 1048576) (h3 : ∀ r ∈ x.next, r.length ≤ 1048576) (hs : s.size ≤ 1048576) : run EE 11 [x.enc, .str s] [] = some (rqR x s, []) := by
  have iv := r53 x h1 h2 h3
  have iw := r54 s (by omega)
  simp only [Dfa.enc] at iv
  unfold rqR
  rw [run_eq EE 11 _ _ Try.func11 (by decide +kernel) rfl (show 2 ≤ _ by decide)]
  dsimp only [Try.f11]
  cases hV : validD x
  · rw [hV] at iv
    rw [if_neg (by simp)]
    simp only [go_sem, iv, Bool.not_false]
  cases hw : isWord s
  · rw [hV] at iv
    rw [hw] at iw
    rw [if_neg (by simp)]
    simp only [go_sem, iv, iw, Bool.not_true, Bool.not_false]
  rw [hV] at iv
  rw [hw] at iw
  rw [if_pos ⟨rfl, rfl⟩]
  obtain ⟨hx, hv⟩ := validD_dn hV
  generalize x.dn = d at hx hv ⊢
  subst hx
  have hle := hv.le
  have hps := hv.pos
  have hl := ltrs_word hw
  have e1 : d.dfa.accept = d.accept := rfl
  have e2 : d.dfa.next.map IL = d.next.map NT := by unfold DN.dfa; rw [List.map_map]; rfl
  rw [e1, e2] at iv
  rw [DN.dfa_enc]
  simp only [go_sem, iv, iw, Bool.not_true]
  refine (iter_inv (fun i : Nat => i ≤ d.accept.length) (fun i => { t := upd (upd (upd (upd (upd (upd e0 23 (.int .i64 i)) 22 (.int .i64 d.accept.length)) 6 (.ptr 0 6 0)) 4 (.ptr 0 4 0)) 2 (.ptr 0 2 0)) 1 (.str s), b := upd (upd (upd n0 6 (some (Ob.box [.slc true 1 (((List.range i).map (rqA d s)).map B), .slc false 1 (d.next.map NT)]))) 4 (some (Ob.box [.slc true 1 [], .slc true 1 []]))) 2 (some (Ob.box [.slc false 1 (d.accept.map B), .slc false 1 (d.next.map NT)])), o := [], r := #[ResultVar.cell 4 27, ResultVar.tmp 5], f := 11, n := 42 }) (fun _ => some (.tup [(quotS (rqD d s) 0).encD, .bool true], [])) (fun i => d.accept.length - i) ?_ 0 (Nat.zero_le _))
  intro i hi ih
  by_cases h : i < d.accept.length
  rotate_left
  · have k1 : ¬ (i : Int) < d.accept.length := by omega
    obtain rfl : i = d.accept.length := by omega
    have lm := r56 (rqD d s) (rqD_ok hv.ok s) (by rw [rqD_len]; omega) 0 (by rw [rqD_len]; omega)
    have er : (rqD d s).next = d.next := rfl
    have ea : (rqD d s).accept = (List.range d.accept.length).map (rqA d s) := rfl
    have z0 : ((0 : Nat) : Int) = 0 := rfl
    simp only [DN.enc] at lm
    rw [er, ea, z0] at lm
    generalize quotS (rqD d s) 0 = Q at *
    simp only [DN.encD] at lm ⊢
    simp only [go_sem, k1, lm]
  have k1 : (i : Int) < d.accept.length := by omega
  have w := wrap_nat (n := i) (by omega)
  have ihn := ih (i + 1) (by omega) (by omega)
  rw [List.range_succ, List.map_append, List.map_append, List.map_cons, List.map_nil, List.map_cons, List.map_nil] at ihn
  have rd := r55 d hv.ok s (by omega) hl i h
  simp only [DN.enc] at rd
  have hwk := walk_lt hv.ok s _ i 0 (Nat.le_refl _) h
  have hga : ∀ v : V, (d.accept.map B).getD (walk d s i 0) v = B (rqA d s i) := fun v => getD_B hwk v
  have kw : ((walk d s i 0 : Nat) : Int) < d.accept.length := by omega
  have a2 : ((List.range i).length + 1) * 1 ≤ 140737488355328 := by rw [List.length_range]; omega
  simp only [go_sem, k1, w]
  rw [q_drawn]
  rotate_left
  · kernel_rfl
  simp only [go_sem, still, rd, h, kw, hga, a2, eq_self, w]
  exact ihn
end Go.Ev
namespace Go.Ev
open Go Go.Proofs
set_option maxRecDepth 10000
set_option linter.unusedVariables false
set_option linter.unusedSimpArgs false

theorem r112 (s : ByteArray) (hs : s.size ≤ 9223372036854775806) : run EE 112 [.str s] [] = some (.bool (small s), []) := by
  have f := r47 s hs
  rw [run_eq EE 112 _ _ Try.func112 (by decide +kernel) rfl (show 1 ≤ _ by decide)]
  dsimp only [Try.f112]
  unfold small
  simp only [go_sem, f]
  refine guardL_bool (fun c => ?_) (fun c => ?_)
  · by_cases k : s.size ≤ 3
    · have k' : (s.size : Int) ≤ 3 := by omega
      simp only [go_sem, c, k, k', Bool.true_and]
    · have k' : ¬ (s.size : Int) ≤ 3 := by omega
      simp only [go_sem, c, k, k', Bool.true_and]
  · simp only [go_sem, c, Bool.false_and]
theorem r64 (m : Mor) (h1 : m.a.size ≤ 1048576) (h2 : m.b.size ≤ 1048576) (h3 : m.c.size ≤ 1048576) : run EE 64 [m.enc] [] = some (.bool (isMor m), []) := by
  have f1 := r112 m.a (by omega)
  have f2 := r112 m.b (by omega)
  have f3 := r112 m.c (by omega)
  rw [run_eq EE 64 _ _ Try.func64 (by decide +kernel) rfl (show 1 ≤ _ by decide)]
  dsimp only [Try.f64]
  unfold isMor
  simp only [go_sem, f1]
  refine guardL_bool (fun c => ?_) (fun c => ?_)
  · simp only [go_sem, c, f2, Bool.true_and]
    refine guardL_bool (fun c' => ?_) (fun c' => ?_)
    · simp only [go_sem, c, c', f3, Bool.true_and]
    · simp only [go_sem, c, c', Bool.false_and]
  · simp only [go_sem, c, Bool.false_and]
theorem r66 (m : Mor) (h1 : m.a.size ≤ 1048576) (h2 : m.b.size ≤ 1048576) (h3 : m.c.size ≤ 1048576) : run EE 66 [m.enc] [] = some (.bool (isMor m), []) := by
  have f1 := r54 m.a (by omega)
  have f2 := r54 m.b (by omega)
  have f3 := r54 m.c (by omega)
  have sm : ∀ s : ByteArray, small s = (decide (¬ (s.size : Int) > 3) && isWord s) := by
    intro s
    unfold small
    rw [Bool.and_comm]
    congr 1
    by_cases k : s.size ≤ 3
    · have k' : ¬ (s.size : Int) > 3 := by omega
      simp [k, k']
    · have k' : (s.size : Int) > 3 := by omega
      simp [k, k']
  have it2 : IntKind.i64.wrap 2 = 2 := by decide
  have it3 : IntKind.i64.wrap 3 = 3 := by decide
  rw [run_eq EE 66 _ _ Try.func66 (by decide +kernel) rfl (show 1 ≤ _ by decide)]
  dsimp only [Try.f66]
  unfold isMor
  rw [sm, sm, sm]
  by_cases k1 : (m.a.size : Int) > 3
  · simp only [go_sem, iter_eq, k1, Bool.false_and, not_true_eq_false, condL_b]
  by_cases w1 : isWord m.a = true
  rotate_left
  · have w1' : isWord m.a = false := by simpa using w1
    simp only [go_sem, iter_eq, k1, f1, w1', Bool.false_and, Bool.and_false, not_false_eq_true, Bool.not_false]
  by_cases k2 : (m.b.size : Int) > 3
  · simp only [go_sem, iter_eq, k1, f1, w1, k2, Bool.not_true, Bool.false_and, Bool.and_false, Bool.true_and, not_true_eq_false, not_false_eq_true]
  by_cases w2 : isWord m.b = true
  rotate_left
  · have w2' : isWord m.b = false := by simpa using w2
    simp only [go_sem, iter_eq, k1, f1, w1, k2, f2, w2', Bool.not_true, Bool.false_and, Bool.and_false, Bool.true_and, not_false_eq_true, Bool.not_false]
  by_cases k3 : (m.c.size : Int) > 3
  · simp only [go_sem, iter_eq, k1, f1, w1, k2, f2, w2, k3, Bool.not_true, Bool.false_and, Bool.and_false, Bool.true_and, not_true_eq_false, not_false_eq_true]
  by_cases w3 : isWord m.c = true
  · simp only [go_sem, iter_eq, k1, f1, w1, k2, f2, w2, k3, f3, w3, Bool.not_true, Bool.true_and, not_false_eq_true]
  · have w3' : isWord m.c = false := by simpa using w3
    simp only [go_sem, iter_eq, k1, f1, w1, k2, f2, w2, k3, f3, w3', Bool.not_true, Bool.true_and, not_false_eq_true, Bool.not_false]
theorem r157 (r : Rx) : run EE 157 [r.enc] [] = some (.bool (zeroR r), []) := by
  rw [run_eq EE 157 _ _ Try.func157 (by decide +kernel) rfl (show 1 ≤ _ by decide)]
  dsimp only [Try.f157]
  unfold zeroR
  simp only [go_sem, toList_nil]
  refine guardL_bool (fun c => ?_) (fun c => ?_)
  · simp only [go_sem, c, toList_nil, Bool.true_and]
    refine guardL_bool (fun c' => ?_) (fun c' => ?_)
    · simp only [go_sem, c, c', Bool.true_and]
    · simp only [go_sem, c, c', Bool.false_and]
  · simp only [go_sem, c, Bool.false_and]
theorem r151 (r : Rx) : run EE 151 [r.enc] [] = some (.bool (zeroR r), []) := by
  rw [run_eq EE 151 _ _ Try.func151 (by decide +kernel) rfl (show 1 ≤ _ by decide)]
  dsimp only [Try.f151]
  unfold zeroR
  simp only [go_sem, toList_nil]
  refine guardL_bool (fun c => ?_) (fun c => ?_)
  · simp only [go_sem, c, toList_nil, Bool.true_and]
    refine guardL_bool (fun c' => ?_) (fun c' => ?_)
    · simp only [go_sem, c, c', Bool.true_and]
    · simp only [go_sem, c, c', Bool.false_and]
  · simp only [go_sem, c, Bool.false_and]
end Go.Ev
namespace Go.Ev
open Go Go.Proofs
set_option maxRecDepth 10000
set_option maxHeartbeats 4000000
set_option linter.unusedVariables false
set_option linter.unusedSimpArgs false

theorem r20 (x : Dfa) (m : Mor) (h1 : x.accept.length ≤ 1048576) (h2 : x.next.length ≤ 1048576) (h3 : ∀ r ∈ x.next, r.length ≤ 1048576) (ha : m.a.size ≤ 1048576) (hb : m.b.size ≤ 1048576) (hc : m.c.size ≤ 1048576) : run EE 20 [x.enc, m.enc] [] = some (preR x m, []) := by
  have iv := r53 x h1 h2 h3
  have iw := r66 m ha hb hc
  simp only [Dfa.enc, Mor.enc] at iv iw
  unfold preR
  rw [run_eq EE 20 _ _ Try.func20 (by decide +kernel) rfl (show 2 ≤ _ by decide)]
  dsimp only [Try.f20]
  simp only [Mor.enc]
  cases hV : validD x
  · rw [hV] at iv
    rw [if_neg (by simp)]
    simp only [go_sem, iv, Bool.not_false]
  cases hw : isMor m
  · rw [hV] at iv
    rw [hw] at iw
    rw [if_neg (by simp)]
    simp only [go_sem, iv, iw, Bool.not_true, Bool.not_false]
  rw [hV] at iv
  rw [hw] at iw
  rw [if_pos ⟨rfl, rfl⟩]
  obtain ⟨hx, hv⟩ := validD_dn hV
  generalize x.dn = d at hx hv ⊢
  subst hx
  have hle := hv.le
  have hps := hv.pos
  obtain ⟨⟨la, sa⟩, ⟨lb, sb⟩, ⟨lc, sc⟩⟩ := isMor_ltrs hw
  have e1 : d.dfa.accept = d.accept := rfl
  have e2 : d.dfa.next.map IL = d.next.map NT := by unfold DN.dfa; rw [List.map_map]; rfl
  rw [e1, e2] at iv
  rw [DN.dfa_enc]
  simp only [go_sem, iv, iw, Bool.not_true]
  refine (iter_inv (fun i : Nat => i ≤ d.accept.length) (fun i => { t := upd (upd (upd (upd (upd (upd e0 23 (.int .i64 i)) 22 (.int .i64 d.accept.length)) 6 (.ptr 0 6 0)) 4 (.ptr 0 4 0)) 3 (.ptr 0 3 0)) 2 (.ptr 0 2 0), b := upd (upd (upd (upd n0 6 (some (Ob.box [.slc false 1 (d.accept.map B), .slc true 1 (((List.range i).map (preT d m)).map NT)]))) 4 (some (Ob.box [.slc true 1 [], .slc true 1 []]))) 3 (some (Ob.box [.str m.a, .str m.b, .str m.c]))) 2 (some (Ob.box [.slc false 1 (d.accept.map B), .slc false 1 (d.next.map NT)])), o := [], r := #[ResultVar.cell 4 27, ResultVar.tmp 5], f := 20, n := 50 }) (fun _ => some (.tup [(quotS (preD d m) 0).encD, .bool true], [])) (fun i => d.accept.length - i) ?_ 0 (Nat.zero_le _))
  intro i hi ih
  by_cases h : i < d.accept.length
  rotate_left
  · have k1 : ¬ (i : Int) < d.accept.length := by omega
    obtain rfl : i = d.accept.length := by omega
    have pv := preD_val hv m
    have lm := r56 (preD d m) pv.ok (by show d.accept.length ≤ _; omega) 0 pv.pos
    have er : (preD d m).next = (List.range d.accept.length).map (preT d m) := rfl
    have ea : (preD d m).accept = d.accept := rfl
    have z0 : ((0 : Nat) : Int) = 0 := rfl
    simp only [DN.enc] at lm
    rw [er, ea, z0] at lm
    generalize quotS (preD d m) 0 = Q at *
    simp only [DN.encD] at lm ⊢
    simp only [go_sem, k1, lm]
  have k1 : (i : Int) < d.accept.length := by omega
  have w := wrap_nat (n := i) (by omega)
  have ihn := ih (i + 1) (by omega) (by omega)
  rw [List.range_succ, List.map_append, List.map_append, List.map_cons, List.map_nil, List.map_cons, List.map_nil] at ihn
  have ra := r55 d hv.ok m.a (by omega) la i h
  have rb := r55 d hv.ok m.b (by omega) lb i h
  have rc := r55 d hv.ok m.c (by omega) lc i h
  simp only [DN.enc] at ra rb rc
  have a2 : ((List.range i).length + 1) * 24 ≤ 140737488355328 := by rw [List.length_range]; omega
  have hT : NT (preT d m i) = .slc false 1 [.int .i64 (walk d m.a i 0), .int .i64 (walk d m.b i 0), .int .i64 (walk d m.c i 0)] := rfl
  rw [hT] at ihn
  simp only [go_sem, k1, w]
  rw [q_drawn]
  rotate_left
  · kernel_rfl
  simp only [go_sem, still, ra, rb, rc, h, a2, eq_self, w]
  exact ihn
section
attribute [-go_sem] uMakes uMakes_acc peekC_aref
theorem r18 (x : Dfa) (m : Mor) (h1 : x.accept.length ≤ 1048576) (h2 : x.next.length ≤ 1048576) (h3 : ∀ r ∈ x.next, r.length ≤ 1048576) (ha : m.a.size ≤ 1048576) (hb : m.b.size ≤ 1048576) (hc : m.c.size ≤ 1048576) : run EE 18 [x.enc, m.enc] [] = some (preR x m, []) := by
  have iv := r46 x h1 h2 h3
  have iw := r64 m ha hb hc
  simp only [Dfa.enc, Mor.enc] at iv iw
  unfold preR
  rw [run_eq EE 18 _ _ Try.func18 (by decide +kernel) rfl (show 2 ≤ _ by decide)]
  dsimp only [Try.f18]
  simp only [Mor.enc]
  cases hV : validD x
  · rw [hV] at iv
    rw [if_neg (by simp)]
    simp only [go_sem, iv, Bool.not_false]
  cases hw : isMor m
  · rw [hV] at iv
    rw [hw] at iw
    rw [if_neg (by simp)]
    simp only [go_sem, iv, iw, Bool.not_true, Bool.not_false]
  rw [hV] at iv
  rw [hw] at iw
  rw [if_pos ⟨rfl, rfl⟩]
  obtain ⟨hx, hv⟩ := validD_dn hV
  generalize x.dn = d at hx hv ⊢
  subst hx
  have hle := hv.le
  have hps := hv.pos
  obtain ⟨⟨la, sa⟩, ⟨lb, sb⟩, ⟨lc, sc⟩⟩ := isMor_ltrs hw
  have e1 : d.dfa.accept = d.accept := rfl
  have e2 : d.dfa.next.map IL = d.next.map NT := by unfold DN.dfa; rw [List.map_map]; rfl
  rw [e1, e2] at iv
  rw [DN.dfa_enc]
  have cp := r48 d hv
  simp only [DN.enc, DN.encD] at cp
  have hA : d.accept ≠ [] := fun e => by rw [e] at hps; exact absurd hps (by decide)
  have fA : (d.accept.length = 0) = False := eq_false (by omega)
  have ln : d.dfa.next.length = d.accept.length := by show (d.next.map _).length = _; rw [List.length_map, hv.ok.1]
  have hN' : d.dfa.next ≠ [] := fun e => by rw [e] at ln; exact absurd ln (by simp only [List.length_nil]; omega)
  have eU : d.dfa.next.map UR = d.next.map NU := by show (d.next.map _).map UR = _; rw [List.map_map]; rfl
  simp only [go_sem, iv, iw, cp, Bool.not_true]
  generalize hb0 : (upd (upd (upd (upd n0 2 _) 3 _) 4 _) 6 _ : Nat → Option Ob) = b0
  have w0 : NoM b0 439 := hb0 ▸ ((((NoM.n0 _).st (by decide) _).st (by decide) _).st (by decide) _).st (by decide) _
  have f0 : ∀ t, famD [440] t = true → b0 t = none := fun t ht => by
    rw [← hb0, upd_fam (by decide) _ ht, upd_fam (by decide) _ ht, upd_fam (by decide) _ ht, upd_fam (by decide) _ ht]
    rfl
  have q2 := congrFun hb0.symm 2
  have q3 := congrFun hb0.symm 3
  have q4 := congrFun hb0.symm 4
  have q6 := congrFun hb0.symm 6
  simp only [go_sem] at q2 q3 q4 q6
  clear hb0
  obtain ⟨b1, mk1, x1, o1, ra⟩ := made2 b0 439 d.accept d.dfa.next w0 f0 (by decide)
  simp only [rowT, fA, if_false, ln, eU] at mk1
  rw [mk1]
  clear mk1
  replace q2 := o1.lo (by decide) q2
  replace q3 := o1.lo (by decide) q3
  replace q4 := o1.lo (by decide) q4
  replace q6 := o1.lo (by decide) q6
  have q439 := x1.acc hA
  have q440 := x1.dir hN'
  clear w0 f0 o1
  have fo : ∀ t o r f n H c, FamOk ⟨t, upd b1 6 c, o, r, f, n⟩ H [440] := fun t o r f n H c => (ra.st (by decide) c).famOk t o r f n H
  have fe : ∀ c g, famB [440] (upd b1 6 c) g = famB [440] (rowsB 440 (mixN d m 0 0) 0 n0) g := fun c g => by rw [mixN_0 hv.ok]; exact (ra.st (by decide) c).fam g
  rw [← mixN_0 hv.ok m, mixN_lens] at q440
  generalize hns : ((List.range d.accept.length).map fun _ => 3) = ns at q440
  simp only [go_sem, q2, q3, q4, q6, q439, q440, fo, fe]
  refine (iter_inv (fun i : Nat => i ≤ d.accept.length) (fun i => { t := upd (upd (upd (upd (upd e0 7 (.int .i64 i)) 6 (.ptr 0 6 0)) 4 (.ptr 0 4 0)) 3 (.ptr 0 3 0)) 2 (.ptr 0 2 0), b := famB [440] (rowsB 440 (mixN d m i 0) 0 n0) (upd (upd (upd (upd (upd (upd n0 440 (some (Ob.dir 1 (refsR 0 440 ns)))) 439 (some (Ob.arr false 1 (d.accept.map B)))) 6 (some (Ob.box [.aref 0 439 d.accept.length, .aref 0 440 d.accept.length]))) 4 (some (Ob.box [.slc true 1 [], .slc true 1 []]))) 3 (some (Ob.box [.str m.a, .str m.b, .str m.c]))) 2 (some (Ob.box [.slc false 1 (d.accept.map B), .slc false 1 (d.next.map NT)]))), o := [], r := #[ResultVar.cell 4 27, ResultVar.tmp 5], f := 18, n := 55 }) (fun _ => some (.tup [(quotS (preD d m) 0).encD, .bool true], [])) (fun i => d.accept.length - i) ?_ 0 (Nat.zero_le _))
  intro i hi ih
  by_cases h : i < d.accept.length
  rotate_left
  · have k1 : ¬ (i : Int) < d.accept.length := by omega
    obtain rfl : i = d.accept.length := by omega
    have pv := preD_val hv m
    have lm := r50 (preD d m) pv.ok (by show d.accept.length ≤ _; omega) pv.pos
    rw [minS_S pv.ok pv.pos] at lm
    rw [mixN_all]
    have ea : (preD d m).accept = d.accept := rfl
    have el : (preD d m).dfa.next.map List.length = ns := by rw [← mixN_all, mixN_lens]; exact hns
    have ep : (preD d m).dfa.next.map IL = (preD d m).next.map NT := by unfold DN.dfa; rw [List.map_map]; rfl
    have en : (preD d m).dfa.next.length = d.accept.length := by rw [← mixN_all, mixN_len]
    simp only [DN.enc] at lm
    rw [ea] at lm
    have pk := fun g (ha : g 439 = some (.arr false 1 (d.accept.map B))) (hd : g 440 = some (.dir 1 (refsR 0 440 ns))) t r f n => peeked (dfaM_fam (u := 439) (A := d.accept) (rows := (preD d m).dfa.next) (g := g) (by decide) (fun _ => ha) (fun _ => by rw [el]; exact hd)) t r f n
    have px1 := fun g ha hd t r f n => (pk g ha hd t r f n).1
    have px2 := fun g ha hd t r f n => (pk g ha hd t r f n).2
    simp only [rowR, fA, if_false, ep, en] at px1 px2
    generalize quotS (preD d m) 0 = Q at *
    simp only [DN.encD] at lm ⊢
    simp only [go_sem, k1, px1, px2, lm]
  have k1 : (i : Int) < d.accept.length := by omega
  have w := wrap_nat (n := i) (by omega)
  have ihn := ih (i + 1) (by omega) (by omega)
  simp only [go_sem, k1]
  refine iter_inv (fun k : Nat => k ≤ 3) (fun k => { t := upd (upd (upd (upd (upd (upd e0 8 (.int .i64 k)) 7 (.int .i64 i)) 6 (.ptr 0 6 0)) 4 (.ptr 0 4 0)) 3 (.ptr 0 3 0)) 2 (.ptr 0 2 0), b := famB [440] (rowsB 440 (mixN d m i k) 0 n0) (upd (upd (upd (upd (upd (upd n0 440 (some (Ob.dir 1 (refsR 0 440 ns)))) 439 (some (Ob.arr false 1 (d.accept.map B)))) 6 (some (Ob.box [.aref 0 439 d.accept.length, .aref 0 440 d.accept.length]))) 4 (some (Ob.box [.slc true 1 [], .slc true 1 []]))) 3 (some (Ob.box [.str m.a, .str m.b, .str m.c]))) 2 (some (Ob.box [.slc false 1 (d.accept.map B), .slc false 1 (d.next.map NT)]))), o := [], r := #[ResultVar.cell 4 27, ResultVar.tmp 5], f := 18, n := 55 }) (fun _ => some (.tup [(quotS (preD d m) 0).encD, .bool true], [])) (fun k => 3 - k) ?_ 0 (Nat.zero_le _)
  intro k hk ihk
  by_cases hk3 : k < 3
  rotate_left
  · obtain rfl : k = 3 := by omega
    have k3 : ¬ ((3 : Nat) : Int) < 3 := by omega
    rw [mixN_next]
    simp only [go_sem, k3, w]
    exact ihn
  have k2 : (k : Int) < 3 := by omega
  have wk := wrap_nat (n := k) (by omega)
  have ihkn := ihk (k + 1) (by omega) (by omega)
  have hnl : ns.length = d.accept.length := by rw [← hns]; simp
  have hrl : (refsR 0 440 ns).length = d.accept.length := by simp [refsR, hnl]
  have hcell : ∀ v, (refsR 0 440 ns).getD i v = .aref 0 (rid 440 i) 3 := fun v => by
    have : i < ns.length := by omega
    have e3 : ns.getD i 0 = 3 := by rw [← hns]; simp [List.getD_eq_getElem?_getD, h]
    unfold refsR
    rw [List.getD_eq_getElem?_getD, List.getElem?_map, List.getElem?_range this]
    show rowR 0 (rid 440 i) (ns.getD i 0) = _
    rw [e3]
    rfl
  have hi2 : i < (mixN d m i k).length := by rw [mixN_len]; exact h
  have hrow : rowsB 440 (mixN d m i k) 0 n0 (rid 440 i) = some (.dir 1 ((rowK (d.nx i) (preT d m i) k).map I)) := by
    rw [rowsB_at, dif_pos hi2, mixN_at d m k hi2, if_neg (rowK_ne _ _ _)]
  have hlen : (rowK (d.nx i) (preT d m i) k).length = 3 := rfl
  have hset := rowK_set (d.nx i) (preT d m i) hk3
  rw [preT_at] at hset
  replace hset : ((rowK (d.nx i) (preT d m i) k).map I).set k (.int .i64 ((walk d (mor3 m k) i 0 : Nat) : Int)) = (rowK (d.nx i) (preT d m i) (k + 1)).map I := hset
  have am := r65 m (letS k) (by have : (letS k).size ≤ 3 := (by unfold letS abcS; simp; omega); omega) ha hb hc
  rw [appM_let hw hk3] at am
  have rd := r49 d hv (mor3 m k) (by have := mor3_size hw k; omega) (mor3_word hw k) i h
  simp only [DN.enc] at rd
  simp only [Mor.enc] at am
  have hup : ∀ g, upd (famB [440] (rowsB 440 (mixN d m i k) 0 n0) g) (rid 440 i) (some (.dir 1 ((rowK (d.nx i) (preT d m i) (k + 1)).map I))) = famB [440] (rowsB 440 (mixN d m i (k + 1)) 0 n0) g := fun g => by
    have := famB_set (u := 440) (j := i) g (by decide) hi2 (rowK_ne (d.nx i) (preT d m i) (k + 1))
    rw [mixN_set] at this
    exact this
  have hrd : ∀ g, famB [440] (rowsB 440 (mixN d m i k) 0 n0) g (rid 440 i) = some (.dir 1 ((rowK (d.nx i) (preT d m i) k).map I)) := fun g => (famB_rid 440 i _ g (by decide)).trans hrow
  clear hrow
  generalize rid 440 i = R at *
  simp only [go_sem, k2]
  rw [q_drawn]
  rotate_left
  · kernel_rfl
  have c1 : (k : Int) ≤ ((k + 1 : Nat) : Int) := by omega
  have c2 : ((k + 1 : Nat) : Int) ≤ (((⟨#[97, 98, 99]⟩ : ByteArray).size : Nat) : Int) := by show ((k + 1 : Nat) : Int) ≤ 3; omega
  unfold letS abcS at am
  simp only [go_sem, still, k2, eq_self, wk, am, rd, c1, c2, k1, hrl, hcell, hrd, hlen, hset, hup, h, hk3]
  exact ihkn
end
end Go.Ev
namespace Go.Ev
open Go Go.Proofs
set_option maxRecDepth 10000
set_option maxHeartbeats 4000000
set_option linter.unusedVariables false
set_option linter.unusedSimpArgs false

theorem r51 (l : List Bool) (hl : l.length ≤ 1048576) : run EE 51 [.slc false 1 (l.map B)] [] = some (.uq 1 (l.map B), []) := by
  rw [run_eq EE 51 _ _ Try.func51 (by decide +kernel) rfl (show 1 ≤ _ by decide)]
  dsimp only [Try.f51]
  have h8 : (l.length : Int) * 1 ≤ 140737488355328 := by omega
  simp only [go_sem, h8]
  refine iter_inv (fun i : Nat => i ≤ l.length) (fun i => { t := upd (upd (upd e0 4 (.int .i64 i)) 3 (.oref 0 7 l.length)) 0 (.slc false 1 (l.map B)), b := upd n0 7 (some (Ob.aru 1 (fill B l (.bool false) i))), o := [], r := #[ResultVar.tmp 2], f := 51, n := 22 }) (fun _ => some (V.uq 1 (l.map B), [])) (fun i => l.length - i) ?_ 0 (Nat.zero_le _)
  intro i hi ih
  have hfl := fill_len B l (.bool false) hi
  by_cases hh : i < l.length
  rotate_left
  · have k1 : ¬ (i : Int) < l.length := by omega
    obtain rfl : i = l.length := by omega
    have hfa := fill_all B l (.bool false)
    simp only [go_sem, k1, hfa]
  have k1 : (i : Int) < l.length := by omega
  have wi := wrap_nat (n := i) (by omega)
  have ihn := ih (i + 1) (by omega) (by omega)
  have hg : ∀ v : V, (l.map B).getD i v = .bool l[i] := fun v => getD_map hh v
  have hs := fill_set B l (.bool false) hh (.bool l[i]) rfl
  simp only [go_sem, k1, hg, hfl, hh, hs, wi]
  exact ihn
theorem r37 (l : List Int) (hl : l.length ≤ 1048576) : run EE 37 [.slc false 1 (l.map I)] [] = some (.uq 1 (l.map I), []) := by
  rw [run_eq EE 37 _ _ Try.func37 (by decide +kernel) rfl (show 1 ≤ _ by decide)]
  dsimp only [Try.f37]
  have h8 : (l.length : Int) * 8 ≤ 140737488355328 := by omega
  simp only [go_sem, h8]
  refine iter_inv (fun i : Nat => i ≤ l.length) (fun i => { t := upd (upd (upd e0 4 (.int .i64 i)) 3 (.oref 0 7 l.length)) 0 (.slc false 1 (l.map I)), b := upd n0 7 (some (Ob.aru 1 (fill I l (.int .i64 0) i))), o := [], r := #[ResultVar.tmp 2], f := 37, n := 22 }) (fun _ => some (V.uq 1 (l.map I), [])) (fun i => l.length - i) ?_ 0 (Nat.zero_le _)
  intro i hi ih
  have hfl := fill_len I l (.int .i64 0) hi
  by_cases hh : i < l.length
  rotate_left
  · have k1 : ¬ (i : Int) < l.length := by omega
    obtain rfl : i = l.length := by omega
    have hfa := fill_all I l (.int .i64 0)
    simp only [go_sem, k1, hfa]
  have k1 : (i : Int) < l.length := by omega
  have wi := wrap_nat (n := i) (by omega)
  have ihn := ih (i + 1) (by omega) (by omega)
  have hg : ∀ v : V, (l.map I).getD i v = .int .i64 l[i] := fun v => getD_map hh v
  have hs := fill_set I l (.int .i64 0) hh (.int .i64 l[i]) rfl
  simp only [go_sem, k1, hg, hfl, hh, hs, wi]
  exact ihn
theorem r52 (l : List (List Int)) (hl : l.length ≤ 1048576) (hr : ∀ r ∈ l, r.length ≤ 1048576) : run EE 52 [.slc false 1 (l.map IL)] [] = some (.uq 1 (l.map UR), []) := by
  rw [run_eq EE 52 _ _ Try.func52 (by decide +kernel) rfl (show 1 ≤ _ by decide)]
  dsimp only [Try.f52]
  have h8 : (l.length : Int) * 24 ≤ 140737488355328 := by omega
  simp only [go_sem, h8]
  refine iter_inv (fun i : Nat => i ≤ l.length) (fun i => { t := upd (upd (upd e0 4 (.int .i64 i)) 3 (.oref 0 7 l.length)) 0 (.slc false 1 (l.map IL)), b := upd n0 7 (some (Ob.aru 1 (fill UR l (.slc false 1 []) i))), o := [], r := #[ResultVar.tmp 2], f := 52, n := 23 }) (fun _ => some (V.uq 1 (l.map UR), [])) (fun i => l.length - i) ?_ 0 (Nat.zero_le _)
  intro i hi ih
  have hfl := fill_len UR l (.slc false 1 []) hi
  by_cases hh : i < l.length
  rotate_left
  · have k1 : ¬ (i : Int) < l.length := by omega
    obtain rfl : i = l.length := by omega
    have hfa := fill_all UR l (.slc false 1 [])
    simp only [go_sem, k1, hfa]
  have k1 : (i : Int) < l.length := by omega
  have wi := wrap_nat (n := i) (by omega)
  have ihn := ih (i + 1) (by omega) (by omega)
  have hg : ∀ v : V, (l.map IL).getD i v = .slc false 1 (l[i].map I) := fun v => getD_map hh v
  have hs := fill_set UR l (.slc false 1 []) hh (.uq 1 (l[i].map I)) rfl
  have ti := r37 l[i] (hr _ (List.getElem_mem hh))
  simp only [go_sem, k1, hg, ti, hfl, hh, hs, wi]
  exact ihn
theorem r10 (d : Dfa) (ha : d.accept.length ≤ 1048576) (hn : d.next.length ≤ 1048576) (hr : ∀ r ∈ d.next, r.length ≤ 1048576) : run EE 10 [d.enc] [] = some (d.encU, []) := by
  have ta := r51 d.accept ha
  have tn := r52 d.next hn hr
  unfold Dfa.encU
  rw [run_eq EE 10 _ _ Try.func10 (by decide +kernel) rfl (show 1 ≤ _ by decide)]
  dsimp only [Try.f10]
  simp only [go_sem, Dfa.enc, ta, tn]
end Go.Ev
namespace Go.Ev
open Go Go.Proofs
set_option maxRecDepth 10000
set_option maxHeartbeats 4000000
set_option linter.unusedVariables false
set_option linter.unusedSimpArgs false

theorem rem3 (k : Nat) : Int.tmod (k : Int) 3 = ((k : Int) % 3) := Int.tmod_eq_emod_of_nonneg (by omega)
theorem r59 (l : List Bool) (lv u k : Nat) (os : List (Nat → Option Ob)) (ho : obIn u lv os = some (.arr false 1 (l.map B))) (hk : k + l.length ≤ 9223372036854775806) : run EE 59 [.aref lv u l.length, .int .i64 k] os = some (.int .i64 ((k + l.length : Nat) : Int), setIn u (.arr false 1 (marksB k l.length)) lv os) := by
  have hlt := obIn_len ho
  have hne : ¬ lv = os.length := by omega
  have h0 : setIn u (.arr false 1 (markP (mB k) (l.map B) 0)) lv os = os := by rw [markP_0]; exact setIn_same u lv _ os ho
  suffices main : run EE 59 [.aref lv u l.length, .int .i64 k] (setIn u (.arr false 1 (markP (mB k) (l.map B) 0)) lv os) = some (.int .i64 ((k + l.length : Nat) : Int), setIn u (.arr false 1 (marksB k l.length)) lv os) by
    rw [h0] at main; exact main
  rw [run_eq EE 59 _ _ Try.func59 (by decide +kernel) rfl (show 2 ≤ _ by decide)]
  dsimp only [Try.f59]
  simp only [go_sem, setIn_len, hne]
  refine iter_inv (fun i : Nat => i ≤ l.length) (fun i => { t := upd (upd (upd e0 5 (.int .i64 i)) 1 (.int .i64 ((k + i : Nat) : Int))) 0 (.aref lv u l.length), b := n0, o := setIn u (.arr false 1 (markP (mB k) (l.map B) i)) lv os, r := #[ResultVar.tmp 4], f := 59, n := 21 }) (fun _ => some (V.int .i64 ((k + l.length : Nat) : Int), setIn u (.arr false 1 (marksB k l.length)) lv os)) (fun i => l.length - i) ?_ 0 (Nat.zero_le _)
  intro i hi ih
  have hol : obIn u lv (setIn u (.arr false 1 (markP (mB k) (l.map B) i)) lv os) = some (.arr false 1 (markP (mB k) (l.map B) i)) := by
    rw [obIn_set2 _ _ _ _ _ _ hlt, if_pos ⟨rfl, rfl⟩]
  by_cases hh : i < l.length
  rotate_left
  · have k1 : ¬ (i : Int) < l.length := by omega
    obtain rfl : i = l.length := by omega
    have he : markP (mB k) (l.map B) l.length = marksB k l.length := by
      have := markP_all (mB k) (l.map B)
      rw [List.length_map] at this
      exact this
    rw [he]
    simp only [go_sem, k1, setIn_len, hne]
  have k1 : (i : Int) < l.length := by omega
  have wi := wrap_nat (n := i) (by omega)
  have wk := wrap_nat (n := k + i) (by omega)
  have ihn := ih (i + 1) (by omega) (by omega)
  have hml := markP_len (mB k) (l.map B) (i := i) (by rw [List.length_map]; omega)
  rw [List.length_map] at hml
  have hset := markP_set (mB k) (l.map B) (i := i) (by rw [List.length_map]; omega)
  have hm : mB k i = .bool (((((k + i : Nat) : Int) % 3)) == 0) := rfl
  rw [hm] at hset
  simp only [go_sem, k1, setIn_len, hne, hol, hml, hh, rem3, hset, setIn_setIn, wi, wk]
  exact ihn
theorem r42 (l : List Int) (lv u k : Nat) (os : List (Nat → Option Ob)) (ho : obIn u lv os = some (.dir 1 (l.map I))) (hk : k + l.length ≤ 9223372036854775806) : run EE 42 [.aref lv u l.length, .int .i64 k] os = some (.int .i64 ((k + l.length : Nat) : Int), setIn u (.dir 1 (marksI k l.length)) lv os) := by
  have hlt := obIn_len ho
  have hne : ¬ lv = os.length := by omega
  have h0 : setIn u (.dir 1 (markP (mI k) (l.map I) 0)) lv os = os := by rw [markP_0]; exact setIn_same u lv _ os ho
  suffices main : run EE 42 [.aref lv u l.length, .int .i64 k] (setIn u (.dir 1 (markP (mI k) (l.map I) 0)) lv os) = some (.int .i64 ((k + l.length : Nat) : Int), setIn u (.dir 1 (marksI k l.length)) lv os) by
    rw [h0] at main; exact main
  rw [run_eq EE 42 _ _ Try.func42 (by decide +kernel) rfl (show 2 ≤ _ by decide)]
  dsimp only [Try.f42]
  simp only [go_sem, setIn_len, hne]
  refine iter_inv (fun i : Nat => i ≤ l.length) (fun i => { t := upd (upd (upd e0 5 (.int .i64 i)) 1 (.int .i64 ((k + i : Nat) : Int))) 0 (.aref lv u l.length), b := n0, o := setIn u (.dir 1 (markP (mI k) (l.map I) i)) lv os, r := #[ResultVar.tmp 4], f := 42, n := 19 }) (fun _ => some (V.int .i64 ((k + l.length : Nat) : Int), setIn u (.dir 1 (marksI k l.length)) lv os)) (fun i => l.length - i) ?_ 0 (Nat.zero_le _)
  intro i hi ih
  have hol : obIn u lv (setIn u (.dir 1 (markP (mI k) (l.map I) i)) lv os) = some (.dir 1 (markP (mI k) (l.map I) i)) := by
    rw [obIn_set2 _ _ _ _ _ _ hlt, if_pos ⟨rfl, rfl⟩]
  by_cases hh : i < l.length
  rotate_left
  · have k1 : ¬ (i : Int) < l.length := by omega
    obtain rfl : i = l.length := by omega
    have he : markP (mI k) (l.map I) l.length = marksI k l.length := by
      have := markP_all (mI k) (l.map I)
      rw [List.length_map] at this
      exact this
    rw [he]
    simp only [go_sem, k1, setIn_len, hne]
  have k1 : (i : Int) < l.length := by omega
  have wi := wrap_nat (n := i) (by omega)
  have wk := wrap_nat (n := k + i) (by omega)
  have ihn := ih (i + 1) (by omega) (by omega)
  have hml := markP_len (mI k) (l.map I) (i := i) (by rw [List.length_map]; omega)
  rw [List.length_map] at hml
  have hset := markP_set (mI k) (l.map I) (i := i) (by rw [List.length_map]; omega)
  have hm : mI k i = .int .i64 (((k + i : Nat) : Int)) := rfl
  rw [hm] at hset
  simp only [go_sem, k1, setIn_len, hne, hol, hml, hh, hset, setIn_setIn, wi, wk]
  exact ihn
theorem mB_get (k n : Nat) {i : Nat} (h : i < n) (v : V) : (marksB k n).getD i v = mB k i := by
  unfold marksB
  rw [List.getD_eq_getElem?_getD, List.getElem?_map, List.getElem?_range h]; rfl
theorem mI_get (k n : Nat) {i : Nat} (h : i < n) (v : V) : (marksI k n).getD i v = mI k i := by
  unfold marksI
  rw [List.getD_eq_getElem?_getD, List.getElem?_map, List.getElem?_range h]; rfl
theorem r61 (n lv u k : Nat) (os : List (Nat → Option Ob)) (ho : obIn u lv os = some (.arr false 1 (marksB k n))) (hk : k + n ≤ 9223372036854775806) : run EE 61 [.aref lv u n, .int .i64 k] os = some (.int .i64 ((k + n : Nat) : Int), os) := by
  have hlt := obIn_len ho
  have hne : ¬ lv = os.length := by omega
  have hml : (marksB k n).length = n := by simp [marksB]
  rw [run_eq EE 61 _ _ Try.func61 (by decide +kernel) rfl (show 2 ≤ _ by decide)]
  dsimp only [Try.f61]
  simp only [go_sem, hne]
  refine iter_inv (fun i : Nat => i ≤ n) (fun i => { t := upd (upd (upd e0 5 (.int .i64 i)) 1 (.int .i64 ((k + i : Nat) : Int))) 0 (.aref lv u n), b := n0, o := os, r := #[ResultVar.tmp 4], f := 61, n := 23 }) (fun _ => some (V.int .i64 ((k + n : Nat) : Int), os)) (fun i => n - i) ?_ 0 (Nat.zero_le _)
  intro i hi ih
  by_cases hh : i < n
  rotate_left
  · have k1 : ¬ (i : Int) < n := by omega
    obtain rfl : i = n := by omega
    simp only [go_sem, k1, hne]
  have k1 : (i : Int) < n := by omega
  have wi := wrap_nat (n := i) (by omega)
  have wk := wrap_nat (n := k + i) (by omega)
  have ihn := ih (i + 1) (by omega) (by omega)
  have hg := fun v => mB_get k n hh v
  have hm : mB k i = .bool (((((k + i : Nat) : Int) % 3)) == 0) := rfl
  simp only [hm] at hg
  simp only [go_sem, k1, hne, ho, hml, hh, rem3, hg, wi, wk, bne_self_eq_false]
  exact ihn
theorem r93 (n lv u k : Nat) (os : List (Nat → Option Ob)) (ho : obIn u lv os = some (.dir 1 (marksI k n))) (hk : k + n ≤ 9223372036854775806) : run EE 93 [.aref lv u n, .int .i64 k] os = some (.int .i64 ((k + n : Nat) : Int), os) := by
  have hlt := obIn_len ho
  have hne : ¬ lv = os.length := by omega
  have hml : (marksI k n).length = n := by simp [marksI]
  rw [run_eq EE 93 _ _ Try.func93 (by decide +kernel) rfl (show 2 ≤ _ by decide)]
  dsimp only [Try.f93]
  simp only [go_sem, hne]
  refine iter_inv (fun i : Nat => i ≤ n) (fun i => { t := upd (upd (upd e0 5 (.int .i64 i)) 1 (.int .i64 ((k + i : Nat) : Int))) 0 (.aref lv u n), b := n0, o := os, r := #[ResultVar.tmp 4], f := 93, n := 21 }) (fun _ => some (V.int .i64 ((k + n : Nat) : Int), os)) (fun i => n - i) ?_ 0 (Nat.zero_le _)
  intro i hi ih
  by_cases hh : i < n
  rotate_left
  · have k1 : ¬ (i : Int) < n := by omega
    obtain rfl : i = n := by omega
    simp only [go_sem, k1, hne]
  have k1 : (i : Int) < n := by omega
  have wi := wrap_nat (n := i) (by omega)
  have wk := wrap_nat (n := k + i) (by omega)
  have ihn := ih (i + 1) (by omega) (by omega)
  have hg := fun v => mI_get k n hh v
  have hm : mI k i = .int .i64 (((k + i : Nat) : Int)) := rfl
  simp only [hm] at hg
  simp only [go_sem, k1, hne, ho, hml, hh, hg, wi, wk, bne_self_eq_false]
  exact ihn
end Go.Ev
namespace Go.Ev
open Go Go.Proofs
set_option maxRecDepth 10000
set_option maxHeartbeats 4000000
set_option linter.unusedVariables false
set_option linter.unusedSimpArgs false

theorem z42 (k : Nat) (os : List (Nat → Option Ob)) : run EE 42 [.slc false 1 [], .int .i64 k] os = some (.int .i64 (k : Int), os) := by
  rw [run_eq EE 42 _ _ Try.func42 (by decide +kernel) rfl (show 2 ≤ _ by decide)]
  dsimp only [Try.f42]
  simp only [go_sem]
  rw [iter_eq]
  simp only [go_sem]
theorem z93 (k : Nat) (os : List (Nat → Option Ob)) : run EE 93 [.slc false 1 [], .int .i64 k] os = some (.int .i64 (k : Int), os) := by
  rw [run_eq EE 93 _ _ Try.func93 (by decide +kernel) rfl (show 2 ≤ _ by decide)]
  dsimp only [Try.f93]
  simp only [go_sem]
  rw [iter_eq]
  simp only [go_sem]
theorem z59 (k : Nat) (os : List (Nat → Option Ob)) : run EE 59 [.slc false 1 [], .int .i64 k] os = some (.int .i64 (k : Int), os) := by
  rw [run_eq EE 59 _ _ Try.func59 (by decide +kernel) rfl (show 2 ≤ _ by decide)]
  dsimp only [Try.f59]
  simp only [go_sem]
  rw [iter_eq]
  simp only [go_sem]
theorem z61 (k : Nat) (os : List (Nat → Option Ob)) : run EE 61 [.slc false 1 [], .int .i64 k] os = some (.int .i64 (k : Int), os) := by
  rw [run_eq EE 61 _ _ Try.func61 (by decide +kernel) rfl (show 2 ≤ _ by decide)]
  dsimp only [Try.f61]
  simp only [go_sem]
  rw [iter_eq]
  simp only [go_sem]
theorem z60 (k : Nat) (os : List (Nat → Option Ob)) : run EE 60 [.slc false 1 [], .int .i64 k] os = some (.int .i64 (k : Int), os) := by
  rw [run_eq EE 60 _ _ Try.func60 (by decide +kernel) rfl (show 2 ≤ _ by decide)]
  dsimp only [Try.f60]
  simp only [go_sem]
  rw [iter_eq]
  simp only [go_sem]
theorem z62 (k : Nat) (os : List (Nat → Option Ob)) : run EE 62 [.slc false 1 [], .int .i64 k] os = some (.int .i64 (k : Int), os) := by
  rw [run_eq EE 62 _ _ Try.func62 (by decide +kernel) rfl (show 2 ≤ _ by decide)]
  dsimp only [Try.f62]
  simp only [go_sem]
  rw [iter_eq]
  simp only [go_sem]
theorem refsR_len (lv u : Nat) (ns : List Nat) : (refsR lv u ns).length = ns.length := by simp [refsR]
theorem refsR_get (lv u : Nat) (ns : List Nat) {i : Nat} (h : i < ns.length) (v : V) : (refsR lv u ns).getD i v = rowR lv (rid u i) ns[i] := by
  unfold refsR
  rw [List.getD_eq_getElem?_getD, List.getElem?_map, List.getElem?_range h]
  simp [List.getD_eq_getElem?_getD, h]
/-- what the rows' part of memory is -/
structure RowsIn (lv u : Nat) (rows : List (List Int)) (i : Nat) (os : List (Nat → Option Ob)) : Prop where
  dir : obIn u lv os = some (.dir 1 (refsR lv u (rows.map List.length)))
  row : ∀ j, i ≤ j → (h : j < rows.length) → rows[j] ≠ [] → obIn (rid u j) lv os = some (.dir 1 (rows[j].map I))
theorem r60 (rows : List (List Int)) (lv u k : Nat) (os : List (Nat → Option Ob)) (hR : RowsIn lv u rows 0 os) (hk : k + (rows.map List.length).sum ≤ 9223372036854775806) (hn : rows.length ≤ 9223372036854775806) : run EE 60 [.aref lv u rows.length, .int .i64 k] os = some (.int .i64 ((k + (rows.map List.length).sum : Nat) : Int), markRows lv u (rows.map List.length) 0 k os) := by
  have hlt := obIn_len hR.dir
  have hne : ¬ lv = os.length := by omega
  rw [run_eq EE 60 _ _ Try.func60 (by decide +kernel) rfl (show 2 ≤ _ by decide)]
  dsimp only [Try.f60]
  simp only [go_sem, hne]
  refine iter_inv (fun x : Nat × Nat × List (Nat → Option Ob) => x.1 ≤ rows.length ∧ x.2.1 + ((rows.drop x.1).map List.length).sum ≤ 9223372036854775806 ∧ RowsIn lv u rows x.1 x.2.2 ∧ x.2.2.length = os.length) (fun x => { t := upd (upd (upd e0 5 (.int .i64 x.1)) 1 (.int .i64 x.2.1)) 0 (.aref lv u rows.length), b := n0, o := x.2.2, r := #[ResultVar.tmp 4], f := 60, n := 19 }) (fun x => some (V.int .i64 ((x.2.1 + ((rows.drop x.1).map List.length).sum : Nat) : Int), markRows lv u ((rows.drop x.1).map List.length) x.1 x.2.1 x.2.2)) (fun x => rows.length - x.1) ?_ (0, k, os) ⟨Nat.zero_le _, hk, hR, rfl⟩
  rintro ⟨i, k', os'⟩ ⟨hi, hk', hR', hL⟩ ih
  dsimp only at hi hk' hR' hL ⊢
  have hne' : ¬ lv = os'.length := by omega
  by_cases hh : i < rows.length
  rotate_left
  · have k1 : ¬ (i : Int) < rows.length := by omega
    rw [List.drop_eq_nil_of_le (by omega)]
    simp only [go_sem, k1, hne', List.map_nil, List.sum_nil, Nat.add_zero, markRows]
  have k1 : (i : Int) < rows.length := by omega
  have wi := wrap_nat (n := i) (by omega)
  have hd := hR'.dir
  have hdl := refsR_len lv u (rows.map List.length)
  rw [List.length_map] at hdl
  have hg := fun v => refsR_get lv u (rows.map List.length) (i := i) (by rw [List.length_map]; exact hh) v
  rw [List.getElem_map] at hg
  have hrow := hR'.row i (Nat.le_refl _) hh
  rw [List.drop_eq_getElem_cons hh, List.map_cons, List.sum_cons] at hk' ⊢
  have hnext : ∀ os2 : List (Nat → Option Ob), os2.length = os'.length → (∀ x, x ≠ rid u i → obIn x lv os2 = obIn x lv os') → RowsIn lv u rows (i + 1) os2 := by
    intro os2 _ ho
    refine ⟨(ho u (Nat.ne_of_lt (rid_gt u i))).trans hd, fun j hj h hz => ?_⟩
    rw [ho _ (fun e => by have := rid_inj e; omega)]
    exact hR'.row j (by omega) h hz
  unfold markRows
  by_cases hz : rows[i] = []
  · have h0 : rows[i].length = 0 := by rw [hz]; rfl
    have hg' : ∀ v, (refsR lv u (rows.map List.length)).getD i v = .slc false 1 [] := fun v => by rw [hg v, h0]; rfl
    have cal := z42 k' (n0 :: os')
    have ihn := ih (i + 1, k', os') ⟨by dsimp only; omega, by dsimp only; omega, hnext os' rfl (fun _ _ => rfl), hL⟩ (by dsimp only; omega)
    dsimp only at ihn
    rw [h0, if_pos rfl, Nat.zero_add, Nat.add_zero]
    simp only [go_sem, k1, hne', hd, hdl, hh, hg', cal, wi]
    exact ihn
  · have h0 : ¬ rows[i].length = 0 := fun e => hz (List.eq_nil_of_length_eq_zero e)
    have hg' : ∀ v, (refsR lv u (rows.map List.length)).getD i v = .aref lv (rid u i) rows[i].length := fun v => by rw [hg v]; unfold rowR; rw [if_neg h0]
    have ho : obIn (rid u i) lv (n0 :: os') = some (.dir 1 (rows[i].map I)) := by
      show (if lv = os'.length then _ else _) = _
      rw [if_neg hne']; exact hrow hz
    have cal := r42 rows[i] lv (rid u i) k' (n0 :: os') ho (by omega)
    rw [setIn_cons, if_neg hne'] at cal
    have ihn := ih (i + 1, k' + rows[i].length, setIn (rid u i) (.dir 1 (marksI k' rows[i].length)) lv os') ⟨by dsimp only; omega, by dsimp only; omega, hnext _ (setIn_len ..) (fun x hx => by rw [obIn_set2 _ _ _ _ _ _ (by omega), if_neg fun h => hx h.2]), by dsimp only; rw [setIn_len]; exact hL⟩ (by dsimp only; omega)
    dsimp only at ihn
    rw [if_neg h0, ← Nat.add_assoc]
    simp only [go_sem, k1, hne', hd, hdl, hh, hg', cal, wi, setIn_len]
    exact ihn
theorem HeldR.get {lv u : Nat} {os : List (Nat → Option Ob)} {ns : List Nat} {i k : Nat} (h : HeldR lv u os ns i k) : ∀ j, (hj : j < ns.length) → ns[j] ≠ 0 → obIn (rid u (i + j)) lv os = some (.dir 1 (marksI (k + (ns.take j).sum) ns[j])) := by
  induction ns generalizing i k with
  | nil => intro j hj; simp at hj
  | cons n ns ih =>
    intro j hj hz
    cases j with
    | zero => exact h.1 hz
    | succ j =>
      have := ih h.2 j (by simpa using hj) hz
      have e2 : i + (j + 1) = i + 1 + j := by omega
      have e3 : k + (n + (ns.take j).sum) = k + n + (ns.take j).sum := by omega
      rw [List.take_succ_cons, List.sum_cons, e2, e3]
      exact this
theorem sum_take_succ {ns : List Nat} {i : Nat} (h : i < ns.length) : (ns.take (i + 1)).sum = (ns.take i).sum + ns[i] := by
  rw [List.take_succ_eq_append_getElem h, List.sum_append]
  simp
theorem sum_take_le (ns : List Nat) (i : Nat) : (ns.take i).sum ≤ ns.sum := by
  have : ns.sum = (ns.take i).sum + (ns.drop i).sum := by rw [← List.sum_append, List.take_append_drop]
  omega
theorem r62 (ns : List Nat) (lv u k : Nat) (os : List (Nat → Option Ob)) (hd : obIn u lv os = some (.dir 1 (refsR lv u ns))) (hH : HeldR lv u os ns 0 k) (hk : k + ns.sum ≤ 9223372036854775806) (hn : ns.length ≤ 9223372036854775806) : run EE 62 [.aref lv u ns.length, .int .i64 k] os = some (.int .i64 ((k + ns.sum : Nat) : Int), os) := by
  have hlt := obIn_len hd
  have hne : ¬ lv = os.length := by omega
  have hdl := refsR_len lv u ns
  rw [run_eq EE 62 _ _ Try.func62 (by decide +kernel) rfl (show 2 ≤ _ by decide)]
  dsimp only [Try.f62]
  simp only [go_sem, hne]
  refine iter_inv (fun i : Nat => i ≤ ns.length) (fun i => { t := upd (upd (upd e0 5 (.int .i64 i)) 1 (.int .i64 ((k + (ns.take i).sum : Nat) : Int))) 0 (.aref lv u ns.length), b := n0, o := os, r := #[ResultVar.tmp 4], f := 62, n := 21 }) (fun _ => some (V.int .i64 ((k + ns.sum : Nat) : Int), os)) (fun i => ns.length - i) ?_ 0 (Nat.zero_le _)
  intro i hi ih
  by_cases hh : i < ns.length
  rotate_left
  · have k1 : ¬ (i : Int) < ns.length := by omega
    rw [List.take_of_length_le (by omega)]
    simp only [go_sem, k1, hne]
  have k1 : (i : Int) < ns.length := by omega
  have wi := wrap_nat (n := i) (by omega)
  have hg := fun v => refsR_get lv u ns hh v
  have hs := sum_take_succ hh
  have hs2 := sum_take_le ns (i + 1)
  have ihn := ih (i + 1) (by omega) (by omega)
  rw [hs, ← Nat.add_assoc] at ihn
  have kn : ¬ ((k + (ns.take i).sum + ns[i] : Nat) : Int) < 0 := by omega
  by_cases hz : ns[i] = 0
  · have hg' : ∀ v, (refsR lv u ns).getD i v = .slc false 1 [] := fun v => by rw [hg v, hz]; rfl
    have cal := z93 (k + (ns.take i).sum) (n0 :: os)
    rw [hz, Nat.add_zero] at kn ihn
    simp only [go_sem, k1, hne, hd, hdl, hh, hg', cal, kn, wi]
    exact ihn
  · have hg' : ∀ v, (refsR lv u ns).getD i v = .aref lv (rid u i) ns[i] := fun v => by rw [hg v]; unfold rowR; rw [if_neg hz]
    have ho0 := hH.get i hh hz
    rw [Nat.zero_add] at ho0
    have ho : obIn (rid u i) lv (n0 :: os) = some (.dir 1 (marksI (k + (ns.take i).sum) ns[i])) := by
      show (if lv = os.length then _ else _) = _
      rw [if_neg hne]; exact ho0
    have cal := r93 ns[i] lv (rid u i) (k + (ns.take i).sum) (n0 :: os) ho (by omega)
    simp only [go_sem, k1, hne, hd, hdl, hh, hg', cal, kn, wi]
    exact ihn
/-- an automaton's two lists, by reference -/
def dfaR (lv u : Nat) (na nn : Nat) : V := .agg [rowR lv u na, rowR lv (u + 1) nn]
/-- both marked -/
def markDO (lv u na : Nat) (ns : List Nat) (k : Nat) (os : List (Nat → Option Ob)) : List (Nat → Option Ob) := markRows lv (u + 1) ns 0 (k + na) (if na = 0 then os else setIn u (.arr false 1 (marksB k na)) lv os)
structure DfaIn (lv u : Nat) (A : List Bool) (rows : List (List Int)) (os : List (Nat → Option Ob)) : Prop where
  acc : A ≠ [] → obIn u lv os = some (.arr false 1 (A.map B))
  rows : rows ≠ [] → RowsIn lv (u + 1) rows 0 os
  lt : lv < os.length
theorem cons_ob {x lv : Nat} {b : Nat → Option Ob} {os : List (Nat → Option Ob)} (h : lv < os.length) : obIn x lv (b :: os) = obIn x lv os := by
  show (if lv = os.length then _ else _) = _
  rw [if_neg (by omega)]
theorem markRows_cons (lv u : Nat) (b : Nat → Option Ob) : ∀ (ns : List Nat) (i k : Nat) (os : List (Nat → Option Ob)), lv < os.length → markRows lv u ns i k (b :: os) = b :: markRows lv u ns i k os := by
  intro ns
  induction ns with
  | nil => intro i k os _; rfl
  | cons n ns ih =>
    intro i k os hl
    unfold markRows
    split
    · exact ih _ _ _ hl
    · rw [setIn_cons, if_neg (by omega)]
      exact ih _ _ _ (by rw [setIn_len]; exact hl)
theorem r13 (A : List Bool) (rows : List (List Int)) (lv u k : Nat) (os : List (Nat → Option Ob)) (hD : DfaIn lv u A rows os) (hk : k + A.length + (rows.map List.length).sum ≤ 9223372036854775806) (hn : rows.length ≤ 9223372036854775806) : run EE 13 [dfaR lv u A.length rows.length, .int .i64 k] os = some (.int .i64 ((k + A.length + (rows.map List.length).sum : Nat) : Int), markDO lv u A.length (rows.map List.length) k os) := by
  have hne : ¬ lv = os.length := by have := hD.lt; omega
  have hlo : lv ≤ os.length := Nat.le_of_lt hD.lt
  -- the two calls
  have c1 : ∀ B0 : Nat → Option Ob, run EE 59 [rowR lv u A.length, .int .i64 k] (B0 :: os) = some (.int .i64 ((k + A.length : Nat) : Int), B0 :: (if A.length = 0 then os else setIn u (.arr false 1 (marksB k A.length)) lv os)) := by
    intro B0
    by_cases hz : A.length = 0
    · rw [hz]
      exact z59 k _
    · have hz' : A ≠ [] := fun e => hz (by rw [e]; rfl)
      unfold rowR
      rw [if_neg hz, if_neg hz]
      have := r59 A lv u k (B0 :: os) (by rw [cons_ob hD.lt]; exact hD.acc hz') (by omega)
      rw [setIn_cons, if_neg hne] at this
      exact this
  generalize hos1 : (if A.length = 0 then os else setIn u (.arr false 1 (marksB k A.length)) lv os) = os1 at c1
  have hl1 : os1.length = os.length := by rw [← hos1]; split; rfl; exact setIn_len ..
  have ho1 : ∀ x, x ≠ u → obIn x lv os1 = obIn x lv os := fun x hx => by
    rw [← hos1]
    split
    · rfl
    · rw [obIn_set2 _ _ _ _ _ _ hD.lt, if_neg fun h => hx h.2]
  have c2 : ∀ B0 : Nat → Option Ob, run EE 60 [rowR lv (u + 1) rows.length, .int .i64 ((k + A.length : Nat) : Int)] (B0 :: os1) = some (.int .i64 ((k + A.length + (rows.map List.length).sum : Nat) : Int), B0 :: markRows lv (u + 1) (rows.map List.length) 0 (k + A.length) os1) := by
    intro B0
    by_cases hz : rows = []
    · subst hz
      exact z60 (k + A.length) _
    · have hz' : ¬ rows.length = 0 := fun e => hz (List.eq_nil_of_length_eq_zero e)
      unfold rowR
      rw [if_neg hz']
      have hr := hD.rows hz
      have := r60 rows lv (u + 1) (k + A.length) (B0 :: os1) ⟨by rw [cons_ob (by omega), ho1 _ (by omega)]; exact hr.dir, fun j hj h hne => by
        rw [cons_ob (by omega), ho1 _ (fun e => by have := rid_gt (u + 1) j; omega)]; exact hr.row j hj h hne⟩ hk hn
      rw [markRows_cons _ _ _ _ _ _ _ (by omega)] at this
      exact this
  unfold markDO
  rw [hos1]
  have rr : ∀ n x, rowR lv x n = .slc false 1 [] ∨ rowR lv x n = .aref lv x n := fun n x => by
    unfold rowR
    split
    · exact .inl rfl
    · exact .inr rfl
  unfold dfaR
  rw [run_eq EE 13 _ _ Try.func13 (by decide +kernel) rfl (show 2 ≤ _ by decide)]
  dsimp only [Try.f13]
  rcases rr A.length u with ra | ra <;> rcases rr rows.length (u + 1) with rb | rb <;> rw [ra] at c1 ⊢ <;> rw [rb] at c2 ⊢ <;> simp only [go_sem, hlo, hl1, c1, c2]
theorem r14 (na : Nat) (ns : List Nat) (lv u k : Nat) (os : List (Nat → Option Ob)) (hlt : lv < os.length) (ha : na ≠ 0 → obIn u lv os = some (.arr false 1 (marksB k na))) (hd : ns ≠ [] → obIn (u + 1) lv os = some (.dir 1 (refsR lv (u + 1) ns))) (hH : HeldR lv (u + 1) os ns 0 (k + na)) (hk : k + na + ns.sum ≤ 9223372036854775806) (hn : ns.length ≤ 9223372036854775806) : run EE 14 [dfaR lv u na ns.length, .int .i64 k] os = some (.int .i64 ((k + na + ns.sum : Nat) : Int), os) := by
  have hlo : lv ≤ os.length := Nat.le_of_lt hlt
  have c1 : ∀ B0 : Nat → Option Ob, run EE 61 [rowR lv u na, .int .i64 k] (B0 :: os) = some (.int .i64 ((k + na : Nat) : Int), B0 :: os) := by
    intro B0
    by_cases hz : na = 0
    · rw [hz]
      exact z61 k _
    · unfold rowR
      rw [if_neg hz]
      exact r61 na lv u k (B0 :: os) (by rw [cons_ob hlt]; exact ha hz) (by omega)
  have c2 : ∀ B0 : Nat → Option Ob, run EE 62 [rowR lv (u + 1) ns.length, .int .i64 ((k + na : Nat) : Int)] (B0 :: os) = some (.int .i64 ((k + na + ns.sum : Nat) : Int), B0 :: os) := by
    intro B0
    by_cases hz : ns = []
    · subst hz
      exact z62 (k + na) _
    · have hz' : ¬ ns.length = 0 := fun e => hz (List.eq_nil_of_length_eq_zero e)
      unfold rowR
      rw [if_neg hz']
      exact r62 ns lv (u + 1) (k + na) (B0 :: os) (by rw [cons_ob hlt]; exact hd hz) (hH.congr fun j _ => cons_ob hlt) hk hn
  have rr : ∀ n x, rowR lv x n = .slc false 1 [] ∨ rowR lv x n = .aref lv x n := fun n x => by
    unfold rowR
    split
    · exact .inl rfl
    · exact .inr rfl
  have k1 : ¬ ((k + na : Nat) : Int) < 0 := by omega
  have k2 : ¬ ((k + na + ns.sum : Nat) : Int) < 0 := by omega
  unfold dfaR
  rw [run_eq EE 14 _ _ Try.func14 (by decide +kernel) rfl (show 2 ≤ _ by decide)]
  dsimp only [Try.f14]
  rcases rr na u with ra | ra <;> rcases rr ns.length (u + 1) with rb | rb <;> rw [ra] at c1 ⊢ <;> rw [rb] at c2 ⊢ <;> simp only [go_sem, hlo, c1, c2, k1, k2]
end Go.Ev
namespace Go.Ev
open Go Go.Proofs
set_option maxRecDepth 10000
set_option maxHeartbeats 4000000
set_option linter.unusedVariables false
set_option linter.unusedSimpArgs false

structure DfaK (b : Nat → Option Ob) (u na : Nat) (ns : List Nat) (k : Nat) : Prop where
  acc : na ≠ 0 → b u = some (.arr false 1 (marksB k na))
  dir : ns ≠ [] → b (u + 1) = some (.dir 1 (refsR 0 (u + 1) ns))
  held : HeldR 0 (u + 1) [b] ns 0 (k + na)
theorem ob1 (x : Nat) (b : Nat → Option Ob) : obIn x 0 [b] = b x := rfl
theorem DfaK.congr {b b' : Nat → Option Ob} {u na k : Nat} {ns : List Nat} (h : DfaK b u na ns k) (e : ∀ y, mine u y → b' y = b y) : DfaK b' u na ns k :=
  ⟨fun z => (e _ (.inl rfl)).trans (h.acc z), fun z => (e _ (.inr (.inl rfl))).trans (h.dir z), h.held.congr fun j _ => e _ (.inr (.inr ⟨j, rfl⟩))⟩
theorem DfaM.in {b : Nat → Option Ob} {u : Nat} {A : List Bool} {rows : List (List Int)} (h : DfaM b u A rows) : DfaIn 0 u A rows [b] :=
  ⟨h.acc, fun z => ⟨h.dir z, fun j _ hj hz => h.row j hj hz⟩, Nat.zero_lt_one⟩
theorem marked {b : Nat → Option Ob} {u : Nat} {A : List Bool} {rows : List (List Int)} (h : DfaM b u A rows) (k : Nat) :
    ∃ b', markDO 0 u A.length (rows.map List.length) k [b] = [b'] ∧ DfaK b' u A.length (rows.map List.length) k ∧ ∀ y, ¬ mine u y → b' y = b y := by
  have hl : (markDO 0 u A.length (rows.map List.length) k [b]).length = 1 := by
    unfold markDO
    rw [markRows_len]
    split
    · rfl
    · rw [setIn_len]; rfl
  obtain ⟨b', hb'⟩ := List.length_eq_one_iff.1 hl
  have hl1 : ∀ c : Nat → Option Ob, 0 < (if A.length = 0 then [c] else setIn u (Ob.arr false 1 (marksB k A.length)) 0 [c]).length := fun c => by
    split
    · exact Nat.zero_lt_one
    · rw [setIn_len]; exact Nat.zero_lt_one
  refine ⟨b', hb', ⟨fun z => ?_, fun z => ?_, ?_⟩, fun y hy => ?_⟩
  · rw [← ob1 u b', ← hb']
    unfold markDO
    rw [markRows_other _ _ _ _ _ _ (hl1 b) (fun j _ _ e => by have := rid_gt (u + 1) j; omega), if_neg z, obIn_set2 _ _ _ _ _ _ Nat.zero_lt_one, if_pos ⟨rfl, rfl⟩]
  · rw [← ob1 (u + 1) b', ← hb']
    unfold markDO
    rw [markRows_other _ _ _ _ _ _ (hl1 b) (fun j _ _ e => by have := rid_gt (u + 1) j; omega)]
    have hr : rows ≠ [] := fun e => z (by rw [e]; rfl)
    rw [← h.dir hr, ← ob1 (u + 1) b]
    split
    · rfl
    · rw [obIn_set2 _ _ _ _ _ _ Nat.zero_lt_one, if_neg fun e => by have := e.2; omega]
  · rw [← hb']
    unfold markDO
    exact markRows_held _ _ _ _ _ _ (hl1 b)
  · rw [← ob1 y b', ← hb']
    unfold markDO
    rw [markRows_other _ _ _ _ _ _ (hl1 b) (fun j _ _ e => hy (.inr (.inr ⟨j, e⟩)))]
    rw [← ob1 y b]
    split
    · rfl
    · rw [obIn_set2 _ _ _ _ _ _ Nat.zero_lt_one, if_neg fun e => hy (.inl e.2)]
theorem DfaK.st {b : Nat → Option Ob} {u k na j : Nat} {ns : List Nat} (h : DfaK b u na ns j) (hk : k < u) (o : Option Ob) : DfaK (upd b k o) u na ns j := h.congr fun y hy => if_neg (fun e : y = k => mine_small hk (e ▸ hy))
theorem DfaK.only {b b' : Nat → Option Ob} {u v na j : Nat} {ns : List Nat} (h : DfaK b u na ns j) (o : Only v b b') (hu : u < 900000) (hv : v < 900000) (d : u + 1 < v ∨ v + 1 < u) : DfaK b' u na ns j := h.congr fun y hy => o y (mine_ne hu hv d hy)
theorem markRun {b : Nat → Option Ob} {u : Nat} {A : List Bool} {rows : List (List Int)} (h : DfaM b u A rows) (k : Nat) (hk : k + A.length + (rows.map List.length).sum ≤ 9223372036854775806) (hn : rows.length ≤ 9223372036854775806) :
    ∃ b', run EE 13 [.agg [rowR 0 u A.length, rowR 0 (u + 1) rows.length], .int .i64 k] [b] = some (.int .i64 ((k + A.length + (rows.map List.length).sum : Nat) : Int), [b']) ∧ DfaK b' u A.length (rows.map List.length) k ∧ Only u b b' := by
  obtain ⟨b', e, hK, ho⟩ := marked h k
  refine ⟨b', ?_, hK, ho⟩
  rw [← e]
  exact r13 A rows 0 u k [b] h.in hk hn
theorem heldRun {b : Nat → Option Ob} {u na k : Nat} {ns : List Nat} (h : DfaK b u na ns k) (hk : k + na + ns.sum ≤ 9223372036854775806) (hn : ns.length ≤ 9223372036854775806) :
    run EE 14 [.agg [rowR 0 u na, rowR 0 (u + 1) ns.length], .int .i64 k] [b] = some (.int .i64 ((k + na + ns.sum : Nat) : Int), [b]) :=
  r14 na ns 0 u k [b] Nat.zero_lt_one h.acc h.dir h.held hk hn
theorem markBoth {b : Nat → Option Ob} {u : Nat} {A : List Bool} {rows : List (List Int)} (h : DfaM b u A rows) (k : Nat) (hk : k + A.length + (rows.map List.length).sum ≤ 9223372036854775806) (hn : rows.length ≤ 9223372036854775806) :
    ∃ b', ∃ n : Nat, run EE 13 [.agg [rowR 0 u A.length, rowR 0 (u + 1) rows.length], .int .i64 k] [b] = some (.int .i64 n, [b']) ∧
      (∀ b2, DfaK b2 u A.length (rows.map List.length) k → run EE 14 [.agg [rowR 0 u A.length, rowR 0 (u + 1) rows.length], .int .i64 k] [b2] = some (.int .i64 n, [b2])) ∧ DfaK b' u A.length (rows.map List.length) k ∧ Only u b b' := by
  obtain ⟨b', e, hK, ho⟩ := markRun h k hk hn
  refine ⟨b', _, e, fun b2 h2 => ?_, hK, ho⟩
  have := heldRun h2 hk (by rw [List.length_map]; exact hn)
  rw [List.length_map] at this
  exact this
end Go.Ev
namespace Go.Ev
open Go Go.Proofs
set_option maxRecDepth 10000
set_option maxHeartbeats 4000000
set_option linter.unusedVariables false
set_option linter.unusedSimpArgs false

theorem ways_dn {Q : DN} (hq : Val Q) : ∃ ya yn A L, Q.encD = .agg [ya, yn] ∧ TwoWays ya yn A L ∧ szT (Dfa.mk A L).enc ≤ 1048576 ∧ 1 + A.length + (L.map List.length).sum ≤ 1048577 ∧ L.length ≤ 1048576 := by
  obtain ⟨ya, yn, e, h⟩ := twoWays_dn Q hq.ok hq.pos
  have e1 := dfa_sz hq.ok
  have e2 := hq.le
  refine ⟨ya, yn, Q.dfa.accept, Q.dfa.next, e, h, ?_, ?_, ?_⟩
  · show szT Q.dfa.enc ≤ _
    omega
  · have : (Q.dfa.next.map List.length).sum = 3 * Q.next.length := sum3 _
    rw [this, hq.ok.1]
    show 1 + Q.accept.length + _ ≤ _
    omega
  · show (Q.next.map _).length ≤ _
    rw [List.length_map, hq.ok.1]
    omega
theorem enc_mk (A : List Bool) (L : List (List Int)) : (Dfa.mk A L).enc = .agg [.slc false 1 (A.map B), .slc false 1 (L.map IL)] := rfl
end Go.Ev
