/- Words run through an automaton, automata compared. The law: quotients accept what the whole word accepts. Typed cells as the laws' data. -/
import Derived.Test.YtidlhjphgnfbbaaProg
import Derived.Test.YtidlhjphgnfbbaaEvV
import Derived.Test.YtidlhjphgnfbbaaEvR
import Derived.Test.YtidlhjphgnfbbaaEvS
import Derived.Test.YtidlhjphgnfbbaaEvP
set_option linter.unusedVariables false
set_option linter.unusedSimpArgs false
namespace Go.Ev
open Go Go.Proofs
set_option maxRecDepth 10000
set_option maxHeartbeats 4000000

theorem run_within (n : Nat) (h : 1 ≤ n) : (decide ((0 : Int) ≤ 0) && decide ((0 : Int) ≤ (n : Int) - 1)) = true := by
 rw [Bool.and_eq_true, decide_eq_true_eq, decide_eq_true_eq]; omega
theorem rv19 (d : DN) (hv : Val d) : run EE 19 [.agg [.slc false 1 (d.accept.map B), .slc false 1 (d.next.map NT)]] [] = some (.bool true, []) := by
 have hd := hv.ok
 have hle := hv.le
 have iv := r19 d.dfa (by show d.accept.length ≤ _; omega) (by show (d.next.map _).length ≤ _; rw [List.length_map, hd.1]; omega) (by
   intro r hr
   obtain ⟨t, _, rfl⟩ := List.mem_map.1 hr
   show 3 ≤ 1048576; decide)
 rw [DN.dfa_enc, hv.valid] at iv
 exact iv
theorem rf31 (d : DN) (hv : Val d) (s : ByteArray) (hs : s.size ≤ 1048576) (hw : isWord s = false) : run EE 31 [.agg [.slc false 1 (d.accept.map B), .slc false 1 (d.next.map NT)], .int .i64 0, .str s] [] = some (.tup [.int .i64 0, .bool false], []) := by
 have hle := hv.le
 have hps := hv.pos
 have iv := rv19 d hv
 have iw := r20 s (by omega)
 rw [hw] at iw
 have ii := r34 0 0 ((d.accept.length : Int) - 1)
 rw [run_within _ hps] at ii
 have w0 : IntKind.i64.wrap ((d.accept.length : Int) - 1) = (d.accept.length : Int) - 1 := wrap_in (by omega) (by omega)
 rw [run_eq EE 31 _ _ Try.func31 (by decide +kernel) rfl (show 3 ≤ _ by decide)]
 dsimp only [Try.f31]
 simp only [go_sem, iv, iw, ii, w0, List.length_map, Bool.not_true, Bool.not_false]
theorem rt31 (d : DN) (hv : Val d) (s : ByteArray) (hs : s.size ≤ 1048576) (hw : isWord s = true) : run EE 31 [.agg [.slc false 1 (d.accept.map B), .slc false 1 (d.next.map NT)], .int .i64 0, .str s] [] = some (.tup [.int .i64 (walk d s 0 0), .bool true], []) := by
 have hle := hv.le
 have hps := hv.pos
 have iv := rv19 d hv
 have iw := r20 s (by omega)
 rw [hw] at iw
 have ii := r34 0 0 ((d.accept.length : Int) - 1)
 rw [run_within _ hps] at ii
 have w0 : IntKind.i64.wrap ((d.accept.length : Int) - 1) = (d.accept.length : Int) - 1 := wrap_in (by omega) (by omega)
 have ha : run EE 22 [.agg [.slc false 1 (d.accept.map B), .slc false 1 (d.next.map NT)], .int .i64 0, .str s] [] = _ := r22 d hv.ok s (by omega) (ltrs_word hw) 0 hps
 rw [run_eq EE 31 _ _ Try.func31 (by decide +kernel) rfl (show 3 ≤ _ by decide)]
 dsimp only [Try.f31]
 simp only [go_sem, iv, iw, ii, w0, List.length_map, Bool.not_true, Bool.not_false, ha]
theorem rf12 (d : DN) (hv : Val d) (s : ByteArray) (hs : s.size ≤ 1048576) (hw : isWord s = false) : run EE 12 [d.enc, .str s] [] = some (.bool (isWord s && accD d s), []) := by
 have key := rf31 d hv s hs hw
 rw [hw]
 simp only [DN.enc]
 rw [run_eq EE 12 _ _ Try.func12 (by decide +kernel) rfl (show 2 ≤ _ by decide)]
 dsimp only [Try.f12]
 simp only [go_sem, key, Bool.false_and]
theorem rt12 (d : DN) (hv : Val d) (s : ByteArray) (hs : s.size ≤ 1048576) (hw : isWord s = true) : run EE 12 [d.enc, .str s] [] = some (.bool (isWord s && accD d s), []) := by
 have key := rt31 d hv s hs hw
 have hlt := walk_lt hv.ok s _ 0 0 (Nat.le_refl _) hv.pos
 have k0 : ((walk d s 0 0 : Nat) : Int) < d.accept.length := by omega
 have hg : ∀ v : V, (d.accept.map B).getD (walk d s 0 0) v = .bool (accD d s) := fun v => by
   rw [List.getD_eq_getElem?_getD, List.getElem?_map, List.getElem?_eq_getElem hlt]
   unfold accD
   rw [List.getD_eq_getElem?_getD, List.getElem?_eq_getElem hlt]
   rfl
 rw [hw]
 simp only [DN.enc]
 rw [run_eq EE 12 _ _ Try.func12 (by decide +kernel) rfl (show 2 ≤ _ by decide)]
 dsimp only [Try.f12]
 simp only [go_sem, key, k0, hg, List.length_map, toNat_cast, Bool.true_and]
theorem r12 (d : DN) (hv : Val d) (s : ByteArray) (hs : s.size ≤ 1048576) : run EE 12 [d.enc, .str s] [] = some (.bool (isWord s && accD d s), []) := by
 cases hw : isWord s with
 | false => rw [← hw]; exact rf12 d hv s hs hw
 | true => rw [← hw]; exact rt12 d hv s hs hw
theorem r29 (l : List Int) (hl : l.length ≤ 1048576) : run EE 29 [.slc false 1 (l.map I), .slc false 1 (l.map I)] [] = some (.bool true, []) := by
 rw [run_eq EE 29 _ _ Try.func29 (by decide +kernel) rfl (show 2 ≤ _ by decide)]
 dsimp only [Try.f29]
 simp only [go_sem, List.length_map, bne_self_eq_false, beq_self_eq_true, Bool.not_true]
 refine iter_inv (fun i : Nat => i ≤ l.length) (fun i => { t := upd (upd (upd e0 5 (.int .i64 i)) 1 (.slc false 1 (l.map I))) 0 (.slc false 1 (l.map I)), b := n0, o := [], r := #[ResultVar.tmp 4], f := 29, n := 26 }) (fun _ => some (.bool true, [])) (fun i => l.length - i) ?_ 0 (Nat.zero_le _)
 intro i hi ih
 by_cases h : i < l.length
 rotate_left
 · have k1 : ¬ (i : Int) < l.length := by omega
   simp only [go_sem, List.length_map, k1]
 have k1 : (i : Int) < l.length := by omega
 have w := wrap_nat (n := i) (by omega)
 have ihn := ih (i + 1) (by omega) (by omega)
 have hg : ∀ v : V, (l.map I).getD i v = I l[i] := fun v => getD_map h v
 simp only [go_sem, List.length_map, k1]
 rw [q_drs]
 rotate_left
 · kernel_rfl
 simp only [go_sem, List.length_map, k1, hg, toNat_cast, w, bne_self_eq_false, beq_self_eq_true, Bool.not_true]
 exact ihn
theorem r10 (x : Dfa) (h1 : x.accept.length ≤ 1048576) (h2 : x.next.length ≤ 1048576) (h3 : ∀ r ∈ x.next, r.length ≤ 1048576) : run EE 10 [x.enc, x.enc] [] = some (.bool true, []) := by
 unfold Dfa.enc
 rw [run_eq EE 10 _ _ Try.func10 (by decide +kernel) rfl (show 2 ≤ _ by decide)]
 dsimp only [Try.f10]
 simp only [go_sem, List.length_map, bne_self_eq_false, beq_self_eq_true, Bool.not_true]
 refine iter_inv (fun i : Nat => i ≤ x.accept.length) (fun i => { t := upd (upd (upd e0 5 (.int .i64 i)) 3 (.ptr 0 3 0)) 2 (.ptr 0 2 0), b := upd (upd n0 3 (some (Ob.box [.slc false 1 (x.accept.map B), .slc false 1 (x.next.map IL)]))) 2 (some (Ob.box [.slc false 1 (x.accept.map B), .slc false 1 (x.next.map IL)])), o := [], r := #[ResultVar.tmp 4], f := 10, n := 60 }) (fun _ => some (.bool true, [])) (fun i => x.accept.length - i) ?_ 0 (Nat.zero_le _)
 intro i hi ih
 by_cases h : i < x.accept.length
 · have k1 : (i : Int) < x.accept.length := by omega
   have w := wrap_nat (n := i) (by omega)
   have ihn := ih (i + 1) (by omega) (by omega)
   have hg : ∀ v : V, (x.accept.map B).getD i v = B x.accept[i] := fun v => getD_map h v
   simp only [go_sem, List.length_map, k1]
   rw [q_drs]
   rotate_left
   · kernel_rfl
   simp only [go_sem, List.length_map, k1, hg, toNat_cast, w, bne_self_eq_false, beq_self_eq_true, Bool.not_true]
   exact ihn
 have k1 : ¬ (i : Int) < x.accept.length := by omega
 clear ih
 simp only [go_sem, List.length_map, k1]
 refine iter_inv (fun i : Nat => i ≤ x.next.length) (fun i => { t := upd (upd (upd e0 6 (.int .i64 i)) 3 (.ptr 0 3 0)) 2 (.ptr 0 2 0), b := upd (upd n0 3 (some (Ob.box [.slc false 1 (x.accept.map B), .slc false 1 (x.next.map IL)]))) 2 (some (Ob.box [.slc false 1 (x.accept.map B), .slc false 1 (x.next.map IL)])), o := [], r := #[ResultVar.tmp 4], f := 10, n := 60 }) (fun _ => some (.bool true, [])) (fun i => x.next.length - i) ?_ 0 (Nat.zero_le _)
 intro i hi ih
 by_cases h : i < x.next.length
 rotate_left
 · have k1 : ¬ (i : Int) < x.next.length := by omega
   simp only [go_sem, List.length_map, k1]
 have k1 : (i : Int) < x.next.length := by omega
 have w := wrap_nat (n := i) (by omega)
 have ihn := ih (i + 1) (by omega) (by omega)
 have hg : ∀ v : V, (x.next.map IL).getD i v = IL x.next[i] := fun v => getD_map h v
 have hq := r29 x.next[i] (h3 _ (List.getElem_mem h))
 simp only [go_sem, List.length_map, k1]
 rw [q_drs]
 rotate_left
 · kernel_rfl
 simp only [go_sem, List.length_map, k1, hg, toNat_cast, hq, IL, w]
 exact ihn
theorem r4 (l : List Int) (hl : l.length ≤ 9223372036854775807) : run EE 4 [.slc false 1 (l.map U8)] [] = some (.bool (decide ((l.length : Int) > 1048576)), []) := by
 rw [run_eq EE 4 _ _ Try.func4 (by decide +kernel) rfl (show 1 ≤ _ by decide)]
 dsimp only [Try.f4]
 simp only [go_sem, List.length_map]
end Go.Ev
namespace Go.Ev
open Go Go.Proofs
set_option maxRecDepth 10000
set_option maxHeartbeats 4000000

theorem eqS10 (d : DN) (hv : Val d) : run EE 10 [.agg [.slc false 1 (d.accept.map B), .slc false 1 (d.next.map NT)], .agg [.slc false 1 (d.accept.map B), .slc false 1 (d.next.map NT)]] [] = some (.bool true, []) := by
 have hd := hv.ok
 have hle := hv.le
 have h := r10 d.dfa (by show d.accept.length ≤ _; omega) (by show (d.next.map _).length ≤ _; rw [List.length_map, hd.1]; omega) (by
   intro r hr
   obtain ⟨t, _, rfl⟩ := List.mem_map.1 hr
   show 3 ≤ 1048576; decide)
 rw [DN.dfa_enc] at h
 exact h
theorem eqE10 : run EE 10 [.agg [.slc false 1 [], .slc false 1 []], .agg [.slc false 1 [], .slc false 1 []]] [] = some (.bool true, []) :=
 r10 ⟨[], []⟩ (by decide) (by decide) (fun r hr => by cases hr)
theorem law3 (l : List Int) (ok : l.length ≤ 9223372036854775807 ∧ okL (l.map (V.int .u8))) : run EE 3 [.slc false 1 (l.map U8)] [] = some (.bool true, []) := by
 have q0 := r4 l ok.1
 generalize hRES : some (V.bool true, ([] : List (Nat → Option Ob))) = RES
 rw [run_eq EE 3 _ _ Try.func3 (by decide +kernel) rfl (show 1 ≤ _ by decide)]
 dsimp only [Try.f3]
 by_cases hb : (l.length : Int) > 1048576
 · rw [decide_eq_true hb] at q0
   simp only [go_sem, q0]
   exact hRES
 rw [decide_eq_false hb] at q0
 obtain ⟨x, s, x1, x2, x3, s1, q1⟩ := r5 l (by omega)
 obtain ⟨ws, w1, w2, qw⟩ := r11 2 (by decide)
 have qa := r6 x s (by omega) (by omega) (fun r hr => by have := x3 r hr; omega) (by omega)
 have qb := r7 x s (by omega) (by omega) (fun r hr => by have := x3 r hr; omega) (by omega)
 have qx := r8 x s (by omega) (by omega) (fun r hr => by have := x3 r hr; omega) (by omega)
 have qy := r9 x s (by omega) (by omega) (fun r hr => by have := x3 r hr; omega) (by omega)
 have qw' : run EE 11 [.int .i64 2] [] = _ := qw
 by_cases hv : validD x = true ∧ isWord s = true
 rotate_left
 · rw [lqR, if_neg hv] at qa qx
   rw [rqR, if_neg hv] at qb qy
   have qe := eqE10
   simp only [Dfa.enc] at q1 qa qb qx qy
   simp only [go_sem, q0, q1, qa, qb, qx, qy, qe, qw', bne_self_eq_false, beq_self_eq_true, List.length_map]
   unfold iter
   by_cases hw0 : (0 : Int) < ws.length
   · simp only [go_sem, hw0, List.length_map]
     exact hRES
   · simp only [go_sem, hw0, List.length_map]
     exact hRES
 obtain ⟨hx, hs⟩ := hv
 obtain ⟨ex, hval⟩ := validD_dn hx
 rw [lqR, if_pos ⟨hx, hs⟩] at qa qx
 rw [rqR, if_pos ⟨hx, hs⟩] at qb qy
 generalize x.dn = d at ex hval qa qb qx qy
 subst ex
 rw [DN.dfa_enc] at q1 qa qb qx qy
 have v1 : Val (quotS d (walk d s 0 0)) := quotS_val hval (walk_lt hval.ok s _ 0 0 (Nat.le_refl _) hval.pos)
 have v2 : Val (quotS (rqD d s) 0) := quotS_val ⟨rqD_ok hval.ok s, by rw [rqD_len]; exact hval.pos, by rw [rqD_len]; exact hval.le⟩ (by rw [rqD_len]; exact hval.pos)
 have al := fun w => acc_left hval s w
 have ar := fun w => acc_right hval s w
 generalize quotS d (walk d s 0 0) = da at v1 al qa qx
 generalize quotS (rqD d s) 0 = db at v2 ar qb qy
 have qe1 := eqS10 da v1
 have qe2 := eqS10 db v2
 simp only [DN.encD] at qa qb qx qy
 simp only [DN.enc] at q1 qa qb qx qy
 simp only [go_sem, q0, q1, qa, qb, qx, qy, qe1, qe2, qw', bne_self_eq_false, beq_self_eq_true, List.length_map]
 refine iter_inv (fun k : Nat => k ≤ ws.length) (fun k => { t := upd (upd (upd (upd (upd (upd (upd (upd e0 14 (.int .i64 (k : Int))) 13 (.slc false 1 (ws.map V.str))) 8 (.bool true)) 7 (.ptr 0 7 0)) 6 (.bool true)) 5 (.ptr 0 5 0)) 4 (.str s)) 3 (.ptr 0 3 0), b := upd (upd (upd (upd (upd n0 11 (some (Ob.box [.slc true 1 (db.accept.map B), .slc true 1 (db.next.map NT)]))) 9 (some (Ob.box [.slc true 1 (da.accept.map B), .slc true 1 (da.next.map NT)]))) 7 (some (Ob.box [.slc true 1 (db.accept.map B), .slc true 1 (db.next.map NT)]))) 5 (some (Ob.box [.slc true 1 (da.accept.map B), .slc true 1 (da.next.map NT)]))) 3 (some (Ob.box [.slc false 1 (d.accept.map B), .slc false 1 (d.next.map NT)])), o := [], r := #[ResultVar.tmp 2], f := 3, n := 116 }) (fun _ => RES) (fun k => ws.length - k) ?_ 0 (Nat.zero_le _)
 intro k hk ih
 by_cases h : k < ws.length
 rotate_left
 · have k1 : ¬ (k : Int) < ws.length := by omega
   simp only [go_sem, k1, List.length_map]
   exact hRES
 have k1 : (k : Int) < ws.length := by omega
 by_cases h20 : (s.size : Int) < 20
 rotate_left
 · simp only [go_sem, k1, h20, List.length_map]
   exact hRES
 have wk := wrap_nat (n := k) (by omega)
 have ihn := ih (k + 1) h (by omega)
 have hsz := w2 _ (List.getElem_mem h)
 have hg : ∀ v : V, (ws.map V.str).getD k v = .str ws[k] := getD_str h
 generalize ws[k] = w at hsz hg
 have p1 := r12 da v1 w (by omega)
 have p2 := r12 d hval (s ++ w) (by rw [ByteArray.size_append]; omega)
 have p3 := r12 db v2 w (by omega)
 have p4 := r12 d hval (w ++ s) (by rw [ByteArray.size_append]; omega)
 rw [isWord_app (by omega) hsz, hs, Bool.true_and, ← al w] at p2
 rw [isWord_app' (by omega) hsz, hs, Bool.true_and, ← ar w] at p4
 simp only [DN.enc] at p1 p2 p3 p4
 have z1 : ¬ ((s.size + w.size : Nat) : Int) > 9223372036854775807 := by omega
 have z2 : ¬ ((w.size + s.size : Nat) : Int) > 9223372036854775807 := by omega
 have k0 : (0 : Int) ≤ k := by omega
 simp only [go_sem, k1, h20, List.length_map]
 rw [q_drs]
 rotate_left
 · kernel_rfl
 simp only [go_sem, k1, k0, hg, z1, z2, p1, p2, p3, p4, bne_self_eq_false, wk, toNat_cast, List.length_map]
 exact ihn
end Go.Ev
namespace Go.Ev.Op
open Go Go.Proofs Go.RowKit Go.Ev
set_option maxRecDepth 10000
theorem un5 : Try.prog.underlying 5 = some (.int .u8) := by kernel_rfl
theorem ce5 : Try.prog.cellsOf 5 = 1 := by kernel_rfl
theorem un22 : Try.prog.underlying 22 = some (.slice 5) := by kernel_rfl
theorem ag5 : isAgg Try.prog 5 = false := by kernel_rfl
theorem ty22 : ∀ (n : Nat) (vs : List V), TyOk Try.prog n 22 vs → ∃ l : List Int, vs = [.slc false 1 (l.map (V.int .u8))] ∧ l.length ≤ 9223372036854775807 ∧ okL (l.map (V.int .u8)) := by
 intro n vs h
 cases n with
 | zero => cases h
 | succ n =>
   obtain ⟨l, h1, h2, h3⟩ := tyOk_slc un22 (f := (V.int .u8)) (fun us hu => ty_int1 ag5 un5 hu) h
   rw [ce5] at h1
   exact ⟨l, h1, h2, h3⟩
theorem closed : closedT Try.prog [5, 22] = true := by kernel_rfl
end Go.Ev.Op
