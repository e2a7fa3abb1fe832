/- Products: the program's; what fits. Products, the reference's. Complements, both. Words: strings of letters of at most thirty. Automata of words, both. Sets of states: the program's moves. Joins and repetitions: the program's. Sets of states: the reference's sorted lists. -/
import Derived.Test.YtlncmdbipjlfhaaGreatEvT
import Derived.Test.YtlncmdbipjlfhaaGreatEvP
import Derived.Test.YtlncmdbipjlfhaaGreatEvS
set_option linter.unusedVariables false
set_option linter.unusedSimpArgs false
namespace Go.Ev
open Go Go.Proofs
set_option maxRecDepth 10000
set_option maxHeartbeats 4000000

theorem vd_i (d : DN) (h : Val d) : run EE 50 [d.enc] [] = some (.bool true, []) := by
 have h1 := h.le
 have := r50 d.dfa (by show d.accept.length ≤ _; omega) (by show (d.next.map _).length ≤ _; rw [List.length_map, h.ok.1]; omega) dfa_row
 rw [DN.dfa_enc, h.valid] at this
 exact this
theorem vd_s (d : DN) (ho : d.ok) (hl : d.accept.length ≤ 1048576) : run EE 67 [d.enc] [] = some (.bool (decide (1 ≤ d.accept.length) && decide (d.accept.length ≤ 40)), []) := by
 have := r67 d.dfa (by show d.accept.length ≤ _; omega) (by show (d.next.map _).length ≤ _; rw [List.length_map, ho.1]; omega) dfa_row
 rw [DN.dfa_enc, validD_dfa ho] at this
 exact this
theorem r60 (d : DN) (ho : d.ok) (h1 : 1 ≤ d.accept.length) (hl : d.accept.length ≤ 1048576) : run EE 60 [d.enc] [] = some (resO (fitD d), []) := by
 have mi := r52 d ho hl 0 h1
 have e0 : ((0 : Nat) : Int) = 0 := rfl
 rw [e0] at mi
 unfold fitD
 generalize quotS d 0 = q at mi ⊢
 simp only [DN.enc, DN.encD] at mi
 rw [run_eq EE 60 _ _ Tryz.func60 (by decide +kernel) rfl (show 1 ≤ _ by decide)]
 dsimp only [Tryz.f60]
 simp only [go_sem, mi]
 by_cases h : q.accept.length ≤ 40
 · have h' : ¬ (q.accept.length : Int) > 40 := by omega
   rw [if_pos h]
   simp only [go_sem, h', resO]
 · have h' : (q.accept.length : Int) > 40 := by omega
   rw [if_neg h]
   simp only [go_sem, h', resO]
theorem r85 (d : DN) (ho : d.ok) (h1 : 1 ≤ d.accept.length) (hl : d.accept.length ≤ 1048576) : run EE 85 [d.enc] [] = some (resO (fitD d), []) := by
 have mi := r78 d ho hl h1
 rw [minS_S ho h1] at mi
 have hq := quotS_ok ho h1
 have hq2 := quotS_len ho h1
 have vd := vd_s (quotS d 0) hq.1 (by omega)
 rw [decide_eq_true hq.2, Bool.true_and] at vd
 unfold fitD
 generalize quotS d 0 = q at mi vd ⊢
 simp only [DN.enc, DN.encD] at mi vd
 rw [run_eq EE 85 _ _ Tryz.func85 (by decide +kernel) rfl (show 1 ≤ _ by decide)]
 dsimp only [Tryz.f85]
 by_cases h : q.accept.length ≤ 40
 · rw [decide_eq_true h] at vd
   rw [if_pos h]
   simp only [go_sem, mi, vd, resO, Bool.not_true]
 · rw [decide_eq_false h] at vd
   rw [if_neg h]
   simp only [go_sem, mi, vd, resO, Bool.not_false]
theorem r58 (a b : DN) (kind : Int) (x : Nat × Nat) (hx : inP a b x) (k1 k2 k3 : Nat) (os : List (Nat → Option Ob)) (ho : os.length ≠ 0) (h1 : obIn k1 0 os = some (.box [.int .i64 kind])) (h2 : obIn k2 0 os = some (.box [.slc false 1 (a.accept.map B), .slc false 1 (a.next.map NT)])) (h3 : obIn k3 0 os = some (.box [.slc false 1 (b.accept.map B), .slc false 1 (b.next.map NT)])) :
   run EE 58 [encP x, .ptr 0 k1 0, .ptr 0 k2 0, .ptr 0 k3 0] os = some (.bool (accP kind a b x), os) := by
 have ho' : ¬ 0 = os.length := fun e => ho e.symm
 have p1 : (x.1 : Int) < a.accept.length := by have := hx.1; omega
 have p2 : (x.2 : Int) < b.accept.length := by have := hx.2; omega
 have g1 : ∀ v : V, (a.accept.map B).getD x.1 v = B (accN a x.1) := fun v => getD_B hx.1 v
 have g2 : ∀ v : V, (b.accept.map B).getD x.2 v = B (accN b x.2) := fun v => getD_B hx.2 v
 unfold accP
 generalize accN a x.1 = A at g1 ⊢
 generalize accN b x.2 = C at g2 ⊢
 simp only [encP, IN]
 rw [run_eq EE 58 _ _ Tryz.func58 (by decide +kernel) rfl (show 4 ≤ _ by decide)]
 dsimp only [Tryz.f58]
 cases kk : (kind == 6)
 · have kk' : ¬ kind = 6 := by simpa using kk
   rw [if_neg kk']
   cases A <;> simp only [go_sem, ho', h1, h2, h3, kk, p1, p2, g1, g2, Bool.false_and, Bool.true_and, Bool.false_or, Bool.true_or]
 · have kk' : kind = 6 := by simpa using kk
   rw [if_pos kk']
   cases A <;> simp only [go_sem, ho', h1, h2, h3, kk, p1, p2, g1, g2, Bool.false_and, Bool.true_and, Bool.false_or, Bool.true_or]
theorem r59 (a b : DN) (ha : a.ok) (hb : b.ok) (x : Nat × Nat) (hx : inP a b x) (i : Nat) (hi : i < 3) (k2 k3 : Nat) (os : List (Nat → Option Ob)) (ho : os.length ≠ 0) (h2 : obIn k2 0 os = some (.box [.slc false 1 (a.accept.map B), .slc false 1 (a.next.map NT)])) (h3 : obIn k3 0 os = some (.box [.slc false 1 (b.accept.map B), .slc false 1 (b.next.map NT)])) :
   run EE 59 [encP x, .int .i64 i, .ptr 0 k2 0, .ptr 0 k3 0] os = some (encP ((l3A (succP a b x))[i]'(by rw [l3A_len]; exact hi)), os) := by
 have ho' : ¬ 0 = os.length := fun e => ho e.symm
 have p1 : (x.1 : Int) < a.next.length := by have := hx.1; rw [ha.1]; omega
 have p2 : (x.2 : Int) < b.next.length := by have := hx.2; rw [hb.1]; omega
 have g1 : ∀ v : V, (a.next.map NT).getD x.1 v = NT (a.nx x.1) := fun v => getD_NT (by rw [ha.1]; exact hx.1) v
 have g2 : ∀ v : V, (b.next.map NT).getD x.2 v = NT (b.nx x.2) := fun v => getD_NT (by rw [hb.1]; exact hx.2) v
 unfold succP
 generalize a.nx x.1 = A at g1 ⊢
 generalize b.nx x.2 = C at g2 ⊢
 simp only [encP, IN]
 rw [run_eq EE 59 _ _ Tryz.func59 (by decide +kernel) rfl (show 4 ≤ _ by decide)]
 dsimp only [Tryz.f59]
 simp only [go_sem]
 rw [q_drs]
 rotate_left
 · kernel_rfl
 match i, hi with
 | 0, _ => simp only [go_sem, ho', h2, h3, p1, p2, g1, g2] <;> rfl
 | 1, _ => simp only [go_sem, ho', h2, h3, p1, p2, g1, g2] <;> rfl
 | 2, _ => simp only [go_sem, ho', h2, h3, p1, p2, g1, g2] <;> rfl
theorem hp2 (k1 k2 : Nat) (b : Nat → Option Ob) : ∀ (st : St) (objs : _), st.o = [b] → ([.ptr 0 k1 0, .ptr 0 k2 0] : List V).all (heldP st objs) = true := by
 intro st objs h; simp [heldP, St.lv, h]
theorem hp3 (k1 k2 k3 : Nat) (b : Nat → Option Ob) : ∀ (st : St) (objs : _), st.o = [b] → ([.ptr 0 k1 0, .ptr 0 k2 0, .ptr 0 k3 0] : List V).all (heldP st objs) = true := by
 intro st objs h; simp [heldP, St.lv, h]
theorem r26 (a b : DN) (ha : Val a) (hb : Val b) (kind : Int) (hk : kind = 6 ∨ kind = 7) : run EE 26 [a.enc, b.enc, .int .i64 kind] [] = some (resO (fitD (prodD kind a b)), []) := by
 have va := vd_i a ha
 have vb := vd_i b hb
 have hpo := prodD_ok (kind := kind) ha hb
 have ft := r60 (prodD kind a b) hpo.1 hpo.2.1 (by omega)
 have ex := fun (B0 : Nat → Option Ob) (h5 : B0 5 = some (.box [.int .i64 kind])) (h3 : B0 3 = some (.box [.slc false 1 (a.accept.map B), .slc false 1 (a.next.map NT)])) (h4 : B0 4 = some (.box [.slc false 1 (b.accept.map B), .slc false 1 (b.next.map NT)])) =>
   r57 (succP a b) (accP kind a b) 1600 (0, 0) (inP a b) (by decide) (by decide) ⟨ha.pos, hb.pos⟩ (fun x hx => succP_in ha.ok hb.ok hx) 58 59 [.ptr 0 5 0, .ptr 0 3 0, .ptr 0 4 0] [.ptr 0 3 0, .ptr 0 4 0] [B0] (by simp) (hp3 5 3 4 B0) (hp2 3 4 B0) rfl rfl
     (fun x hx b0 => r58 a b kind x hx 5 3 4 _ (by simp) (by rw [obIn_cons (by simp)]; exact h5) (by rw [obIn_cons (by simp)]; exact h3) (by rw [obIn_cons (by simp)]; exact h4))
     (fun x hx i hi b0 => r59 a b ha.ok hb.ok x hx i hi 3 4 _ (by simp) (by rw [obIn_cons (by simp)]; exact h3) (by rw [obIn_cons (by simp)]; exact h4)) (by kernel_rfl) (by kernel_rfl)
 have eL : expL (succP a b) 1600 (0, 0) = listP a b := rfl
 have eD : expD (succP a b) (accP kind a b) (listP a b) = prodD kind a b := rfl
 rw [eL] at ex
 rw [if_pos (listP_le ha hb), eD] at ex
 have e16 : ((1600 : Nat) : Int) = 1600 := rfl
 rw [e16] at ex
 have e00 : ((0 : Nat) : Int) = 0 := rfl
 simp only [encP, IN, e00] at ex
 generalize prodD kind a b = d at ft ex ⊢
 generalize hr : fitD d = r at ft ⊢
 simp only [DN.enc] at va vb ft ex
 rw [run_eq EE 26 _ _ Tryz.func26 (by decide +kernel) rfl (show 3 ≤ _ by decide)]
 dsimp only [Tryz.f26]
 have key : ∀ (kk : Int), (kk = 6 ∨ kk = 7) → True := fun _ _ => trivial
 rcases hk with rfl | rfl
 · simp only [go_sem, va, vb, bne, Bool.not_true]
   rw [ex _ rfl rfl rfl]
   cases r with
   | none => simp only [go_sem, ft, resO]
   | some e => simp only [go_sem, ft, resO]
 · simp only [go_sem, va, vb, bne, Bool.not_true]
   rw [ex _ rfl rfl rfl]
   cases r with
   | none => simp only [go_sem, ft, resO]
   | some e => simp only [go_sem, ft, resO]
end Go.Ev
namespace Go.Ev
open Go Go.Proofs
set_option maxRecDepth 10000
set_option maxHeartbeats 4000000

theorem findN (M : List Nat) (hM : M.length ≤ 1048576) (x : Nat) : run EE 84 [.slc false 1 (M.map IN), .int .i64 x] [] = some (.int .i64 (posP (fun y : Int => y == (x : Int)) (M.map fun n : Nat => (n : Int)) 0), []) := by
 have := r84 (M.map fun n : Nat => (n : Int)) (by rw [List.length_map]; exact hM) x
 rw [← map_IN] at this
 exact this
theorem r44 (a b : DN) (ha : Val a) (hb : Val b) (kind : Int) (hk : kind = 6 ∨ kind = 7) : run EE 44 [a.enc, b.enc, .int .i64 kind] [] = some (resO (fitD (prodD kind a b)), []) := by
 have hal := ha.le
 have hbl := hb.le
 have hbp := hb.pos
 have va := vd_s a ha.ok (by omega)
 have vb := vd_s b hb.ok (by omega)
 rw [decide_eq_true ha.pos, decide_eq_true ha.le] at va
 rw [decide_eq_true hb.pos, decide_eq_true hb.le] at vb
 have hpo := prodD_ok (kind := kind) ha hb
 have ft := r85 (prodD kind a b) hpo.1 hpo.2.1 (by omega)
 rw [← prodI ha hb kind] at ft ⊢
 have hLl := listI_le ha hb
 have hLt := listI_lt ha hb
 have hLe : listI a b = bfsL (succI a b) 1601 [0] 0 := rfl
 generalize listI a b = L at *
 simp only [DN.enc] at va vb ft
 have hkk : (kind == 6) = true ∨ ((kind == 6) = false ∧ (kind == 7) = true) := by rcases hk with rfl | rfl <;> simp
 generalize hRES : (some (resO (fitD ⟨L.map (accI kind a b), L.map fun x => rowD L (succI a b x)⟩), ([] : List (Nat → Option Ob)))) = RES
 rw [run_eq EE 44 _ _ Tryz.func44 (by decide +kernel) rfl (show 3 ≤ _ by decide)]
 dsimp only [Tryz.f44]
 rcases hkk with k6 | ⟨k6, k7⟩
 case' inl => simp only [go_sem, va, vb, bne, k6, Bool.not_true, Bool.and_self]
 case' inr => simp only [go_sem, va, vb, bne, k6, k7, Bool.not_true, Bool.not_false, Bool.and_self]
 all_goals
   refine iter_inv (fun p : Nat × List Nat => p.1 ≤ p.2.length ∧ p.2.length ≤ 1600 ∧ bfsL (succI a b) (1601 - p.1) p.2 p.1 = L) (fun p => { t := upd (upd (upd (upd (upd (upd (upd (upd e0 11 (.int .i64 p.1)) 10 (.slc true 1 (p.2.map IN))) 9 (.ptr 0 9 0)) 8 (.int .i64 b.accept.length)) 6 (.ptr 0 6 0)) 4 (.ptr 0 4 0)) 3 (.ptr 0 3 0)) 2 (.int .i64 kind), b := upd (upd (upd (upd n0 9 (some (Ob.box [.slc true 1 ((L.take p.1).map (accB (accI kind a b))), .slc true 1 ((L.take p.1).map (rowB (succI a b) L))]))) 6 (some (Ob.box [.slc true 1 [], .slc true 1 []]))) 4 (some (Ob.box [.slc false 1 (b.accept.map B), .slc false 1 (b.next.map NT)]))) 3 (some (Ob.box [.slc false 1 (a.accept.map B), .slc false 1 (a.next.map NT)])), o := [], r := #[ResultVar.cell 6 29, ResultVar.tmp 7], f := 44, n := 143 }) (fun _ => RES) (fun p => 1601 - p.1) ?_ (0, [0]) ⟨Nat.zero_le _, by decide, hLe.symm⟩
   rintro ⟨i, l⟩ ⟨hi, hlm, hbf⟩ ih
   dsimp only at hi hlm hbf ⊢
   by_cases h : i < l.length
   rotate_left
   · have k1 : ¬ (i : Int) < l.length := by omega
     rw [bfs_done h] at hbf
     subst hbf
     rw [List.take_of_length_le (by omega), accB_map, rowB_map]
     simp only [go_sem, k1, ft]
     rw [← hRES]
     cases fitD ⟨l.map (accI kind a b), l.map fun x => rowD l (succI a b x)⟩ with
     | none => simp only [go_sem, resO]
     | some e => simp only [go_sem, resO]
   have k1 : (i : Int) < l.length := by omega
   have wi := wrap_nat (n := i) (by omega)
   have hgl : ∀ v : V, (l.map IN).getD i v = IN l[i] := fun v => getD_map h v
   have e1 : 1601 - i = (1601 - (i + 1)) + 1 := by omega
   rw [e1, bfs_step h] at hbf
   have hpl : l <+: L := by rw [← hbf]; exact (ins3_pre _ _).trans (bfs_pre _ _ _ _)
   have hpL : ins3 l (succI a b l[i]) <+: L := by rw [← hbf]; exact bfs_pre _ _ _ _
   have hLx : L.take (i + 1) = L.take i ++ [l[i]] := by
     rw [take_pre hpl h]
     congr 1
     obtain ⟨m, rfl⟩ := hpl
     rw [List.take_append_of_le_length (by omega)]
   have htk : (L.take i).length = i := by
     have := hpl.length_le
     rw [List.length_take]; omega
   have ihn := ih (i + 1, ins3 l (succI a b l[i])) ⟨Nat.le_trans h (ins3_pre _ _).length_le, Nat.le_trans hpL.length_le hLl, hbf⟩ (by show 1601 - (i + 1) < 1601 - i; omega)
   dsimp only at ihn
   clear ih
   have hxL := hLt _ (hpl.subset (List.getElem_mem h))
   rw [hLx, List.map_append, List.map_append, List.map_cons, List.map_nil, List.map_cons, List.map_nil] at ihn
   have eab : accB (accI kind a b) l[i] = .bool (if kind = 6 then accN a (l[i] / b.accept.length) || accN b (l[i] % b.accept.length) else accN a (l[i] / b.accept.length) && accN b (l[i] % b.accept.length)) := rfl
   have erb : rowB (succI a b) L l[i] = .slc false 1 [IN (ixD L (succI a b l[i]).1), IN (ixD L (succI a b l[i]).2.1), IN (ixD L (succI a b l[i]).2.2)] := rfl
   rw [eab, erb] at ihn
   clear eab erb
   have hsu : succI a b l[i] = ((a.nx (l[i] / b.accept.length)).1 * b.accept.length + (b.nx (l[i] % b.accept.length)).1, (a.nx (l[i] / b.accept.length)).2.1 * b.accept.length + (b.nx (l[i] % b.accept.length)).2.1, (a.nx (l[i] / b.accept.length)).2.2 * b.accept.length + (b.nx (l[i] % b.accept.length)).2.2) := rfl
   have dq : (l[i] : Int).tdiv b.accept.length = ((l[i] / b.accept.length : Nat) : Int) := (Int.ofNat_tdiv _ _).symm
   have dr : (l[i] : Int).tmod b.accept.length = ((l[i] % b.accept.length : Nat) : Int) := (Int.ofNat_tmod _ _).symm
   have b0 : ¬ (b.accept.length : Int) = 0 := by omega
   generalize l[i] = x at *
   generalize hq : x / b.accept.length = q at *
   generalize hr : x % b.accept.length = r at *
   have wq : IntKind.i64.wrap (q : Int) = (q : Int) := wrap_in (by omega) (by omega)
   have ga : ∀ v : V, (a.next.map NT).getD q v = NT (a.nx q) := fun v => getD_NT (by rw [ha.ok.1]; exact hxL.1) v
   have gb : ∀ v : V, (b.next.map NT).getD r v = NT (b.nx r) := fun v => getD_NT (by rw [hb.ok.1]; exact hxL.2.1) v
   have ca : ∀ v : V, (a.accept.map B).getD q v = B (accN a q) := fun v => getD_B hxL.1 v
   have cb : ∀ v : V, (b.accept.map B).getD r v = B (accN b r) := fun v => getD_B hxL.2.1 v
   have pa : (q : Int) < a.next.length := by rw [ha.ok.1]; omega
   have pb : (r : Int) < b.next.length := by rw [hb.ok.1]; omega
   have pa' : (q : Int) < a.accept.length := by omega
   have pb' : (r : Int) < b.accept.length := by omega
   have na := DN.nx_lt ha.ok hxL.1
   have nb := DN.nx_lt hb.ok hxL.2.1
   generalize a.nx q = A at *
   generalize b.nx r = C at *
   generalize succI a b x = tt at *
   generalize accN a q = acA at *
   generalize accN b r = acB at *
   have htt : ∀ j (hj : j < 3), (l3 tt)[j]'(by rw [l3_len]; exact hj) = (l3 A)[j]'(by rw [l3_len]; exact hj) * b.accept.length + (l3 C)[j]'(by rw [l3_len]; exact hj) ∧ (l3 A)[j]'(by rw [l3_len]; exact hj) < 40 ∧ (l3 C)[j]'(by rw [l3_len]; exact hj) < 40 := by
     intro j hj
     rw [hsu]
     match j, hj with
     | 0, _ => exact ⟨rfl, by show A.1 < 40; omega, by show C.1 < 40; omega⟩
     | 1, _ => exact ⟨rfl, by show A.2.1 < 40; omega, by show C.2.1 < 40; omega⟩
     | 2, _ => exact ⟨rfl, by show A.2.2 < 40; omega, by show C.2.2 < 40; omega⟩
   simp only [go_sem, k1, hgl, b0, dq, dr, wq]
   refine iter_inv (fun j : Nat => j ≤ 3) (fun j => { t := upd (upd (upd (upd (upd (upd (upd (upd (upd (upd (upd (upd e0 15 (.int .i64 j)) 14 (.slc true 1 (((l3 tt).take j).map (ixB L)))) 13 (.int .i64 r)) 12 (.int .i64 q)) 11 (.int .i64 i)) 10 (.slc true 1 ((((l3 tt).take j).foldl ins l).map IN))) 9 (.ptr 0 9 0)) 8 (.int .i64 b.accept.length)) 6 (.ptr 0 6 0)) 4 (.ptr 0 4 0)) 3 (.ptr 0 3 0)) 2 (.int .i64 kind), b := upd (upd (upd (upd n0 9 (some (Ob.box [.slc true 1 ((L.take i).map (accB (accI kind a b))), .slc true 1 ((L.take i).map (rowB (succI a b) L))]))) 6 (some (Ob.box [.slc true 1 [], .slc true 1 []]))) 4 (some (Ob.box [.slc false 1 (b.accept.map B), .slc false 1 (b.next.map NT)]))) 3 (some (Ob.box [.slc false 1 (a.accept.map B), .slc false 1 (a.next.map NT)])), o := [], r := #[ResultVar.cell 6 29, ResultVar.tmp 7], f := 44, n := 143 }) (fun _ => RES) (fun j => 3 - j) ?_ 0 (by omega)
   intro j hj ihj
   by_cases h' : j < 3
   rotate_left
   · obtain rfl : j = 3 := by omega
     have e3 : ((l3 tt).take 3).foldl ins l = ins3 l tt := rfl
     have e4 : ((l3 tt).take 3).map (ixB L) = [IN (ixD L tt.1), IN (ixD L tt.2.1), IN (ixD L tt.2.2)] := rfl
     rw [e3, e4]
     have k3 : ¬ ((3 : Nat) : Int) < 3 := by omega
     have a1 : (i + 1) * 1 ≤ 140737488355328 := by omega
     have a2 : (i + 1) * 24 ≤ 140737488355328 := by omega
     have kb : kind = 6 ↔ (kind == 6) = true := by simp
     simp only [kb, k6, if_true, if_false, Bool.false_eq_true] at ihn
     cases acA <;> simp only [go_sem, k3, pa', pb', ca, cb, k6, htk, a1, a2, wi, Bool.true_and, Bool.false_and, Bool.true_or, Bool.false_or] at ihn ⊢ <;> exact ihn
   have k2 : (j : Int) < 3 := by omega
   have wj := wrap_nat (n := j) (by omega)
   have hpre : ((l3 tt).take (j + 1)).foldl ins l <+: L := by
     refine List.IsPrefix.trans ?_ hpL
     rw [← ins3_l3]
     have e : (l3 tt).foldl ins l = ((l3 tt).drop (j + 1)).foldl ins (((l3 tt).take (j + 1)).foldl ins l) := by
       rw [← List.foldl_append, List.take_append_drop]
     rw [e]
     exact foldl_ins_pre _ _
   have hji : j < (l3 tt).length := by rw [l3_len]; exact h'
   have ihm := ihj (j + 1) (by omega) (by omega)
   rw [foldl_take _ _ hji] at hpre ihm
   rw [take_snoc hji, List.map_append, List.map_cons, List.map_nil] at ihm
   have eix : ixB L (l3 tt)[j] = IN (ixD L (l3 tt)[j]) := rfl
   rw [eix] at ihm
   obtain ⟨ht1, ht2, ht3⟩ := htt j h'
   have gA := get3 A h'
   have gC := get3 C h'
   generalize (l3 A)[j]'(by rw [l3_len]; exact h') = Aj at *
   generalize (l3 C)[j]'(by rw [l3_len]; exact h') = Cj at *
   generalize (l3 tt)[j] = y at *
   have hab : Aj * b.accept.length ≤ 40 * 40 := Nat.mul_le_mul (by omega) (by omega)
   have wm : IntKind.i64.wrap ((Aj : Int) * (b.accept.length : Int)) = ((Aj * b.accept.length : Nat) : Int) := by
     rw [← Int.natCast_mul]; exact wrap_in (by omega) (by omega)
   have wa : IntKind.i64.wrap (((Aj * b.accept.length : Nat) : Int) + (Cj : Int)) = (y : Int) := by
     rw [ht1, ← Int.natCast_add]; exact wrap_in (by omega) (by omega)
   have hrl : (((l3 tt).take j).map (ixB L)).length = j := by rw [List.length_map, List.length_take, l3_len]; omega
   have a1 : (j + 1) * 8 ≤ 140737488355328 := by omega
   generalize ((l3 tt).take j).map (ixB L) = row at *
   generalize ((l3 tt).take j).foldl ins l = m at *
   have hml := Nat.le_trans hpre.length_le hLl
   have hmi := (ins_pre m y).length_le
   have ip := idxP (l := m) (x := y)
   have f1 := findN m (by omega) y
   have f2 := findN (ins m y) (by omega) y
   rw [ip.1 L hpre] at f2
   have exL : L.idxOf y = ixD L y := rfl
   rw [exL] at f2
   by_cases hm' : y ∈ m
   · have hp0 : ¬ (posP (fun z : Int => z == (y : Int)) (m.map fun n : Nat => (n : Int)) 0 < 0) := fun e => ip.2.1 e hm'
     rw [ins, if_pos hm'] at ihm f2
     rw [f1] at f2
     have f3 := (V.int.inj ((Prod.mk.inj (Option.some.inj f2)).1)).2
     rw [f3] at f1 hp0
     simp only [go_sem, k2]
     rw [q_drs]
     rotate_left
     · kernel_rfl
     simp only [go_sem, pa, pb, ga, gb, k2, gA, gC, wm, wa, f1, hp0, hrl, a1, wj]
     exact ihm
   · have hp0 : posP (fun z : Int => z == (y : Int)) (m.map fun n : Nat => (n : Int)) 0 < 0 := ip.2.2 hm'
     rw [ins, if_neg hm'] at ihm f2 hml
     rw [List.length_append] at hml
     simp only [List.length_cons, List.length_nil] at hml
     have a3 : (m.length + 1) * 8 ≤ 140737488355328 := by omega
     have es := map_IN_one m y
     rw [es] at ihm f2
     simp only [go_sem, k2]
     rw [q_drs]
     rotate_left
     · kernel_rfl
     simp only [go_sem, pa, pb, ga, gb, k2, gA, gC, wm, wa, f1, hp0, a3, f2, hrl, a1, wj]
     exact ihm
end Go.Ev
namespace Go.Ev
open Go Go.Proofs
set_option maxRecDepth 10000
set_option maxHeartbeats 4000000

theorem r86 (d : DN) (h : Val d) : run EE 86 [d.enc] [] = some ((quotS d 0).encD, []) := by
 have hl := h.le
 have mi := r78 d h.ok (by omega) h.pos
 rw [minS_S h.ok h.pos] at mi
 have vd := vd_s d h.ok (by omega)
 rw [decide_eq_true h.pos, decide_eq_true h.le] at vd
 generalize quotS d 0 = q at mi ⊢
 simp only [DN.enc, DN.encD] at mi vd
 rw [run_eq EE 86 _ _ Tryz.func86 (by decide +kernel) rfl (show 1 ≤ _ by decide)]
 dsimp only [Tryz.f86]
 simp only [go_sem, vd, mi, Bool.and_self, Bool.not_true, DN.encD]
theorem r45 (d : DN) (h : Val d) : run EE 45 [d.enc] [] = some (.agg [.slc false 1 ((cplD (quotS d 0)).accept.map B), .uq 1 ((cplD (quotS d 0)).next.map NU)], []) := by
 have mi := r86 d h
 have hq := quotS_val h h.pos
 generalize quotS d 0 = q at mi hq ⊢
 have hp := hq.pos
 have hle := hq.le
 simp only [DN.enc, DN.encD] at mi
 have hA : q.accept ≠ [] := fun e => by rw [e] at hp; exact absurd hp (by decide)
 have hN : q.next ≠ [] := fun e => by have h1 := hq.ok.1; rw [e] at h1; simp at h1; omega
 rw [run_eq EE 45 _ _ Tryz.func45 (by decide +kernel) rfl (show 1 ≤ _ by decide)]
 dsimp only [Tryz.f45]
 simp only [go_sem, mi, hA, hN]
 have hz : q.accept.map B = turnB q.accept 0 := by rw [turnB_0]
 have hcq : (cplD q).accept = q.accept.map (!·) := rfl
 have hcn : (cplD q).next = q.next := rfl
 conv in Ob.arr _ _ _ => rw [hz]
 clear hz mi
 refine iter_inv (fun i : Nat => i ≤ q.accept.length) (fun i => { t := upd (upd (upd e0 4 (.int .i64 i)) 3 (.ptr 0 3 0)) 2 (.ptr 0 2 0), b := upd (upd (upd (upd n0 217 (some (Ob.arr false 1 (turnB q.accept i)))) 3 (some (Ob.box [.aref 0 217 q.accept.length, .uq 1 (q.next.map NU)]))) 2 (some (Ob.box [.slc true 1 [], .slc true 1 []]))) 1 (some (Ob.box [.slc false 1 (d.accept.map B), .slc false 1 (d.next.map NT)])), o := [], r := #[ResultVar.cell 2 29], f := 45, n := 25 }) (fun _ => some (V.agg [V.slc false 1 ((q.accept.map (!·)).map B), V.uq 1 (q.next.map NU)], [])) (fun i => q.accept.length - i) ?_ 0 (Nat.zero_le _)
 intro i hi ih
 have htl := turnB_len q.accept i hi
 by_cases hlt : i < q.accept.length
 · have k1 : (i : Int) < q.accept.length := by omega
   have wi := wrap_nat (n := i) (by omega)
   have ihn := ih (i + 1) (by omega) (by omega)
   have hg := fun v : V => turnB_get hlt v
   have hset := turnB_set hlt
   simp only [B] at hg hset
   simp only [go_sem, k1]
   rw [q_drs]
   rotate_left
   · kernel_rfl
   simp only [go_sem, k1, hg, htl, hlt, hset, wi]
   exact ihn
 · have k1 : ¬ (i : Int) < q.accept.length := by omega
   obtain rfl : i = q.accept.length := by omega
   have hall := turnB_all q.accept
   simp only [go_sem, k1, htl, hall]
theorem r27 (d : DN) (h : Val d) : run EE 27 [d.enc] [] = some ((cplD (quotS d 0)).encT, []) := by
 have hl := h.le
 have vd := vd_i d h
 have hp := h.pos
 have hcl : (cplD d).accept.length = d.accept.length := by simp [cplD]
 have mi := r52 (cplD d) (cplD_ok h.ok) (by omega) 0 (by omega)
 rw [quotS_cpl h.ok hp] at mi
 have ez0 : ((0 : Nat) : Int) = 0 := rfl
 rw [ez0] at mi
 generalize cplD (quotS d 0) = q at mi ⊢
 have hac : (cplD d).accept = d.accept.map (!·) := rfl
 have hne : (cplD d).next = d.next := rfl
 simp only [DN.enc, DN.encD, hac, hne] at mi vd
 rw [run_eq EE 27 _ _ Tryz.func27 (by decide +kernel) rfl (show 1 ≤ _ by decide)]
 dsimp only [Tryz.f27]
 simp only [go_sem, vd, Bool.not_true]
 refine iter_inv (fun i : Nat => i ≤ d.accept.length) (fun i => { t := upd (upd (upd (upd (upd e0 16 (.int .i64 i)) 15 (.int .i64 d.accept.length)) 14 (.slc false 1 (d.accept.map B))) 3 (.ptr 0 3 0)) 2 (.ptr 0 2 0), b := upd (upd (upd n0 3 (some (Ob.box [.slc true 1 ((d.accept.take i).map notB), .slc false 1 (d.next.map NT)]))) 2 (some (Ob.box [.slc true 1 [], .slc true 1 []]))) 1 (some (Ob.box [.slc false 1 (d.accept.map B), .slc false 1 (d.next.map NT)])), o := [], r := #[ResultVar.cell 2 29], f := 27, n := 30 }) (fun _ => some (q.encT, [])) (fun i => d.accept.length - i) ?_ 0 (Nat.zero_le _)
 intro i hi ih
 by_cases hlt : i < d.accept.length
 · have k1 : (i : Int) < d.accept.length := by omega
   have wi := wrap_nat (n := i) (by omega)
   have ihn := ih (i + 1) (by omega) (by omega)
   rw [take_snoc hlt, List.map_append, List.map_cons, List.map_nil] at ihn
   have en : notB d.accept[i] = .bool !d.accept[i] := rfl
   rw [en] at ihn
   have hg : ∀ v : V, (d.accept.map B).getD i v = B d.accept[i] := fun v => getD_map hlt v
   have htk : (d.accept.take i).length = i := by rw [List.length_take]; omega
   have a1 : (i + 1) * 1 ≤ 140737488355328 := by omega
   simp only [go_sem, k1, hg, htk, a1, wi]
   exact ihn
 · have k1 : ¬ (i : Int) < d.accept.length := by omega
   rw [List.take_of_length_le (by omega)]
   have en : d.accept.map notB = (d.accept.map (!·)).map B := by rw [List.map_map]; rfl
   rw [en]
   simp only [go_sem, k1, mi, DN.encT]
end Go.Ev
namespace Go.Ev
open Go Go.Proofs
set_option maxRecDepth 10000

theorem r96 (s : ByteArray) (hs : s.size ≤ 9223372036854775806) : run EE 96 [.str s] [] = some (.bool (allB isLtr s 0), []) := by
 rw [run_eq EE 96 _ _ Tryz.func96 (by decide +kernel) rfl (show 1 ≤ _ by decide)]
 dsimp only [Tryz.f96]
 simp only [go_sem]
 refine iter_rule (fun i : Nat => { t := upd (upd e0 3 (.int .i64 i)) 0 (.str s), b := n0, o := [], r := #[ResultVar.tmp 2], f := 96, n := 15 }) (fun i => some (.bool (allB isLtr s i), [])) (fun i => s.size - i) ?_ 0
 intro i ih
 by_cases h : i < s.size
 · have h1 : (i : Int) < s.size := by omega
   have w := wrap_nat (n := i) (by omega)
   have f2 := r97 (bt s i) (bt_nonneg s i) (bt_lt s i)
   rw [allB_next isLtr s h]
   simp only [go_sem, h1, f2]
   refine condL_dec (fun c => ?_) (fun c => ?_)
   · have c' : isLtr (bt s i) = false := by unfold isLtr; simp; omega
     simp only [go_sem, c', Bool.false_and]
   · have c' : isLtr (bt s i) = true := by unfold isLtr; simp; omega
     simp only [go_sem, c', Bool.true_and, w]
     exact ih (i + 1) (by omega)
 · have h1 : ¬ (i : Int) < s.size := by omega
   rw [allB_end isLtr s h]
   simp only [go_sem, h1]
theorem r51 (s : ByteArray) (hs : s.size ≤ 9223372036854775806) : run EE 51 [.str s] [] = some (.bool (isWord s), []) := by
 have f := r96 s hs
 rw [run_eq EE 51 _ _ Tryz.func51 (by decide +kernel) rfl (show 1 ≤ _ by decide)]
 dsimp only [Tryz.f51]
 unfold isWord
 simp only [go_sem, f]
 refine guardL_bool (fun c => ?_) (fun c => ?_)
 · have c' : (s.size : Int) ≤ 30 := by simpa using c
   have c'' : s.size ≤ 30 := by omega
   simp only [go_sem, c', c'', f, Bool.true_and]
 · have c' : ¬ (s.size : Int) ≤ 30 := by simpa using c
   have c'' : ¬ s.size ≤ 30 := by omega
   simp only [go_sem, c', c'', Bool.false_and]
theorem r74 (s : ByteArray) (hs : s.size ≤ 9223372036854775806) : run EE 74 [.str s] [] = some (.bool (isWord s), []) := by
 rw [run_eq EE 74 _ _ Tryz.func74 (by decide +kernel) rfl (show 1 ≤ _ by decide)]
 dsimp only [Tryz.f74]
 simp only [go_sem]
 refine (iter_rule (fun i : Nat => { t := upd (upd e0 3 (.int .i64 i)) 0 (.str s), b := n0, o := [], r := #[ResultVar.tmp 2], f := 74, n := 18 }) (fun i => some (.bool (allB isLtr s i && decide (s.size ≤ 30)), [])) (fun i => s.size - i) ?_ 0).trans ?_
 · intro i ih
   by_cases h : i < s.size
   · have h1 : (i : Int) < s.size := by omega
     have w := wrap_nat (n := i) (by omega)
     have f2 := r106 (bt s i)
     rw [allB_next isLtr s h]
     simp only [go_sem, h1, f2]
     refine condL_dec (fun c => ?_) (fun c => ?_)
     · have c' : isLtr (bt s i) = false := by unfold isLtr; simp; omega
       simp only [go_sem, c', Bool.false_and]
     · have c' : isLtr (bt s i) = true := by unfold isLtr; simp; omega
       simp only [go_sem, c', Bool.true_and, w]
       exact ih (i + 1) (by omega)
   · have h1 : ¬ (i : Int) < s.size := by omega
     rw [allB_end isLtr s h]
     by_cases c : s.size ≤ 30
     · have c' : (s.size : Int) ≤ 30 := by omega
       simp only [go_sem, h1, c, c', Bool.true_and]
     · have c' : ¬ (s.size : Int) ≤ 30 := by omega
       simp only [go_sem, h1, c, c', Bool.true_and]
 · unfold isWord
   rw [Bool.and_comm]
end Go.Ev
namespace Go.Ev
open Go Go.Proofs
set_option maxRecDepth 10000
set_option maxHeartbeats 4000000

theorem r99 (s : ByteArray) (hs : s.size ≤ 9223372036854775806) : run EE 99 [.str s] [] = some (resO (if isWord s = true then some (quotS (wordW s) 0) else none), []) := by
 have iw := r51 s hs
 rw [run_eq EE 99 _ _ Tryz.func99 (by decide +kernel) rfl (show 1 ≤ _ by decide)]
 dsimp only [Tryz.f99]
 by_cases hw : isWord s = true
 rotate_left
 · have hw' : isWord s = false := by simpa using hw
   rw [hw'] at iw ⊢
   simp only [go_sem, iw, Bool.not_false, Bool.false_eq_true, if_false, resO]
 rw [if_pos hw]
 rw [hw] at iw
 have hle := word_le hw
 have hv := wordW_ok s
 have mi := r52 (wordW s) hv.1 (by omega) 0 (by omega)
 have ez0 : ((0 : Nat) : Int) = 0 := rfl
 rw [ez0] at mi
 generalize quotS (wordW s) 0 = r at mi ⊢
 obtain ⟨N, hN⟩ : ∃ N, N = s.size + 2 := ⟨_, rfl⟩
 have hwd : (wordW s).enc = .agg [.slc false 1 ((List.range (s.size + 2)).map (aW s)), .slc false 1 ((List.range (s.size + 2)).map (rW s))] := by
   rw [aW_map, rW_map]; rfl
 rw [hwd, ← hN] at mi
 simp only [DN.enc, DN.encD] at mi
 have w2 : IntKind.i64.wrap ((s.size : Int) + 2) = (N : Int) := by
   rw [wrap_in (n := (s.size : Int) + 2) (by omega) (by omega)]; omega
 have w1 : IntKind.i64.wrap ((s.size : Int) + 1) = ((s.size + 1 : Nat) : Int) := wrap_in (by omega) (by omega)
 simp only [go_sem, iw, w2, Bool.not_true]
 refine iter_inv (fun i : Nat => i ≤ N) (fun i => { t := upd (upd (upd (upd (upd (upd e0 17 (.int .i64 i)) 16 (.int .i64 N)) 5 (.ptr 0 5 0)) 4 (.int .i64 s.size)) 2 (.ptr 0 2 0)) 0 (.str s), b := upd (upd n0 5 (some (Ob.box [.slc true 1 ((List.range i).map (aW s)), .slc true 1 ((List.range i).map (rW s))]))) 2 (some (Ob.box [.slc true 1 [], .slc true 1 []])), o := [], r := #[ResultVar.cell 2 29, ResultVar.tmp 3], f := 99, n := 55 }) (fun _ => some (resO (some r), [])) (fun i => N - i) ?_ 0 (Nat.zero_le _)
 intro i hi ih
 by_cases h : i < N
 rotate_left
 · have k1 : ¬ (i : Int) < (N : Int) := by omega
   obtain rfl : i = N := by omega
   simp only [go_sem, k1, mi, resO]
 have k1 : (i : Int) < (N : Int) := by omega
 have wi := wrap_nat (n := i) (by omega)
 have ihn := ih (i + 1) (by omega) (by omega)
 rw [List.range_succ, List.map_append, List.map_append, List.map_cons, List.map_nil, List.map_cons, List.map_nil] at ihn
 have ea : aW s i = .bool ((i : Int) == (s.size : Int)) := rfl
 have er : rW s i = .slc false 1 [IN (wc s i 0), IN (wc s i 1), IN (wc s i 2)] := rfl
 rw [ea, er] at ihn
 have hrl : (List.range i).length = i := List.length_range
 have a1 : (i + 1) * 1 ≤ 140737488355328 := by omega
 have a2 : (i + 1) * 24 ≤ 140737488355328 := by omega
 by_cases hn : i < s.size
 · have kn : (i : Int) < s.size := by omega
   have li := r97 (bt s i) (bt_nonneg s i) (bt_lt s i)
   unfold wc at ihn
   rcases word_ltr hw hn with hl | hl | hl
   all_goals
     simp only [hl, hn, true_and, Int.reduceEq, if_true, if_false] at ihn
     rw [hl] at li
     simp only [go_sem, k1, w1, kn, li, wi, hrl, a1, a2]
     exact ihn
 · have kn : ¬ (i : Int) < s.size := by omega
   unfold wc at ihn
   simp only [hn, false_and, if_false] at ihn
   simp only [go_sem, k1, w1, kn, wi, hrl, a1, a2]
   exact ihn
theorem r133 (s : ByteArray) (hw : isWord s = true) : run EE 133 [.str s] [] = some ((quotS (wordW s) 0).encT, []) := by
 have hle := word_le hw
 have hv := wordW_ok s
 have mi := r78 (wordW s) hv.1 (by omega) (by omega)
 rw [minS_S hv.1 (by omega)] at mi
 generalize quotS (wordW s) 0 = r at mi ⊢
 obtain ⟨N, hN⟩ : ∃ N, N = s.size + 2 := ⟨_, rfl⟩
 have hwd : (wordW s).enc = .agg [.slc false 1 ((List.range (s.size + 2)).map (aW s)), .slc false 1 ((List.range (s.size + 2)).map (rW s))] := by
   rw [aW_map, rW_map]; rfl
 rw [hwd, ← hN] at mi
 simp only [DN.encD] at mi
 have w1 : IntKind.i64.wrap ((s.size : Int) + 1) = ((s.size + 1 : Nat) : Int) := wrap_in (by omega) (by omega)
 rw [run_eq EE 133 _ _ Tryz.func133 (by decide +kernel) rfl (show 1 ≤ _ by decide)]
 dsimp only [Tryz.f133]
 simp only [go_sem, w1]
 refine iter_inv (fun i : Nat => i ≤ N) (fun i => { t := upd (upd (upd (upd (upd e0 5 (.int .i64 i)) 4 (.int .i64 (s.size + 1 : Nat))) 3 (.ptr 0 3 0)) 2 (.ptr 0 2 0)) 0 (.str s), b := upd (upd n0 3 (some (Ob.box [.slc true 1 ((List.range i).map (aW s)), .slc true 1 ((List.range i).map (rW s))]))) 2 (some (Ob.box [.slc true 1 [], .slc true 1 []])), o := [], r := #[ResultVar.cell 2 29], f := 133, n := 60 }) (fun _ => some (r.encT, [])) (fun i => N - i) ?_ 0 (Nat.zero_le _)
 intro i hi ih
 by_cases h : i < N
 rotate_left
 · have k1 : ¬ (i : Int) ≤ ((s.size + 1 : Nat) : Int) := by omega
   obtain rfl : i = N := by omega
   simp only [go_sem, k1, mi, DN.encT]
 have k1 : (i : Int) ≤ ((s.size + 1 : Nat) : Int) := by omega
 have wi := wrap_nat (n := i) (by omega)
 have ihn := ih (i + 1) (by omega) (by omega)
 rw [List.range_succ, List.map_append, List.map_append, List.map_cons, List.map_nil, List.map_cons, List.map_nil] at ihn
 have ea : aW s i = .bool ((i : Int) == (s.size : Int)) := rfl
 have er : rW s i = .slc false 1 [IN (wc s i 0), IN (wc s i 1), IN (wc s i 2)] := rfl
 rw [ea, er] at ihn
 have hrl : (List.range i).length = i := List.length_range
 have a1 : (i + 1) * 1 ≤ 140737488355328 := by omega
 have a2 : (i + 1) * 24 ≤ 140737488355328 := by omega
 simp only [go_sem, k1]
 by_cases hn : i < s.size
 · have kn : (i : Int) < s.size := by omega
   have li := r106 (bt s i)
   unfold wc at ihn
   rcases word_ltr hw hn with hl | hl | hl
   all_goals
     simp only [hl, hn, true_and, Int.reduceEq, if_true, if_false] at ihn
     rw [hl] at li
     rw [iter_eq]
     simp only [go_sem, k1, w1, kn, li, wi]
     rw [iter_eq]
     simp only [go_sem, k1, w1, kn, li, wi]
     rw [iter_eq]
     simp only [go_sem, k1, w1, kn, li, wi]
     rw [iter_eq]
     simp only [go_sem, k1, w1, kn, li, wi, hrl, a1, a2]
     exact ihn
 · have kn : ¬ (i : Int) < s.size := by omega
   unfold wc at ihn
   simp only [hn, false_and, if_false] at ihn
   rw [iter_eq]
   simp only [go_sem, k1, w1, kn, wi]
   rw [iter_eq]
   simp only [go_sem, k1, w1, kn, wi]
   rw [iter_eq]
   simp only [go_sem, k1, w1, kn, wi]
   rw [iter_eq]
   simp only [go_sem, k1, w1, kn, wi, hrl, a1, a2]
   exact ihn
end Go.Ev
namespace Go.Ev
open Go Go.Proofs
set_option maxRecDepth 10000
set_option maxHeartbeats 4000000

theorem r126 (d : DN) (ho : d.ok) (hn : d.accept.length ≤ 40) (S l : Nat) (hl : l < 3) (hS : S < 2 ^ d.accept.length) : run EE 126 [d.enc, .int .u64 S, .int .i64 l] [] = some (.int .u64 (moveN d S l), []) := by
 generalize hRES : (some (V.int .u64 (moveN d S l), []) : Option (V × List (Nat → Option Ob))) = RES
 have hnl := ho.1
 simp only [DN.enc]
 rw [run_eq EE 126 _ _ Tryz.func126 (by decide +kernel) rfl (show 3 ≤ _ by decide)]
 dsimp only [Tryz.f126]
 simp only [go_sem]
 refine iter_inv (fun i : Nat => i ≤ d.accept.length) (fun i => { t := upd (upd (upd (upd (upd (upd e0 13 (.int .i64 i)) 12 (.int .i64 d.next.length)) 11 (.slc false 1 (d.next.map NT))) 7 (.int .u64 (mvK d l S i))) 2 (.int .i64 l)) 1 (.int .u64 S), b := upd n0 3 (some (Ob.box [.slc false 1 (d.accept.map B), .slc false 1 (d.next.map NT)])), o := [], r := #[ResultVar.tmp 6], f := 126, n := 32 }) (fun _ => RES) (fun i => d.accept.length - i) ?_ 0 (Nat.zero_le _)
 intro i hi ih
 by_cases h : i < d.accept.length
 rotate_left
 · have k1 : ¬ (i : Int) < d.next.length := by omega
   obtain rfl : i = d.accept.length := by omega
   subst hRES
   simp only [go_sem, k1, moveN]
 have k1 : (i : Int) < d.next.length := by omega
 have k2 : (l : Int) < 3 := by omega
 have wi := wrap_nat (n := i) (by omega)
 have ihn := ih (i + 1) (by omega) (by omega)
 rw [mvK_succ] at ihn
 have gn : ∀ v : V, (d.next.map NT).getD i v = NT (d.nx i) := fun v => getD_NT (by omega) v

 have hb := u64_bit S i (by omega)
 have hni := nneg i
 unfold mvF at ihn
 by_cases hS : S.testBit i = true
 · rw [if_pos hS] at hb ihn
   have hq := nx3_lt (nx_lt3 ho i h) hl
   have hsl := u64_shl (nx3 (d.nx i) l) (by omega)
   have hor := u64_or (mvK d l S i) (2 ^ nx3 (d.nx i) l) (Nat.lt_of_lt_of_le (mvK_lt ho hl S i hi) (Nat.pow_le_pow_right (by decide) (by omega))) (Nat.pow_lt_pow_right (by decide) (by omega))
   have k2 : (l : Int) < 3 := by omega
   have hnq := nneg (nx3 (d.nx i) l)
   have g3 := nx3_get (d.nx i) hl
   generalize d.nx i = t at *
   generalize hQ : nx3 t l = Q at *
   generalize mvK d l S i = m at *
   simp only [go_sem, k1, k2, wi, gn, hb, hni, hnq, g3, hsl, hor]
   exact ihn
 · rw [if_neg hS] at hb ihn
   simp only [go_sem, k1, wi, gn, hb, hni]
   exact ihn
theorem r124 (d : DN) (ho : d.ok) (hn : d.accept.length ≤ 40) (S : Nat) : run EE 124 [d.enc, .int .u64 S] [] = some (B (anyN d S), []) := by
 unfold anyN
 have hnl := ho.1
 simp only [DN.enc]
 rw [run_eq EE 124 _ _ Tryz.func124 (by decide +kernel) rfl (show 2 ≤ _ by decide)]
 dsimp only [Tryz.f124]
 simp only [go_sem]
 refine iter_inv (fun i : Nat => i ≤ d.accept.length ∧ (List.range i).any (fun q => accN d q && S.testBit q) = false) (fun i => { t := upd (upd (upd (upd e0 10 (.int .i64 i)) 9 (.int .i64 d.accept.length)) 8 (.slc false 1 (d.accept.map B))) 1 (.int .u64 S), b := upd n0 2 (some (Ob.box [.slc false 1 (d.accept.map B), .slc false 1 (d.next.map NT)])), o := [], r := #[ResultVar.tmp 4], f := 124, n := 24 }) (fun _ => some (B ((List.range d.accept.length).any fun q => accN d q && S.testBit q), [])) (fun i => d.accept.length - i) ?_ 0 ⟨Nat.zero_le _, rfl⟩
 rintro i ⟨hi, hf⟩ ih
 by_cases h : i < d.accept.length
 rotate_left
 · have k1 : ¬ (i : Int) < d.accept.length := by omega
   obtain rfl : i = d.accept.length := by omega
   rw [hf]
   simp only [go_sem, k1]
 have k1 : (i : Int) < d.accept.length := by omega
 have wi := wrap_nat (n := i) (by omega)
 have gb : ∀ v : V, (d.accept.map B).getD i v = B (accN d i) := fun v => getD_B h v
 have hb := u64_bit S i (by omega)
 have hni := nneg i
 have ihn := fun hh => ih (i + 1) ⟨by omega, hh⟩ (by omega)
 rw [List.range_succ, List.any_append, hf, Bool.false_or, List.any_cons, List.any_nil, Bool.or_false] at ihn
 have hy : ∀ b, (accN d i && S.testBit i) = b → b = true → (List.range d.accept.length).any (fun q => accN d q && S.testBit q) = true := by
   rintro b e rfl
   exact List.any_eq_true.2 ⟨i, List.mem_range.2 h, e⟩
 generalize (List.range d.accept.length).any (fun q => accN d q && S.testBit q) = res at *
 generalize accN d i = A at *
 cases A
 · have ihm := ihn rfl
   simp only [go_sem, k1, wi, gb]
   exact ihm
 by_cases hS : S.testBit i = true
 · rw [if_pos hS] at hb
   rw [hy true (by rw [hS]; rfl) rfl]
   simp only [go_sem, k1, wi, gb, hb, hni]
 · rw [if_neg hS] at hb
   have ihm := ihn (by simpa using hS)
   simp only [go_sem, k1, wi, gb, hb, hni]
   exact ihm
end Go.Ev
namespace Go.Ev
open Go Go.Proofs
set_option maxRecDepth 10000
set_option maxHeartbeats 4000000

theorem r121 (a : DN) (x : Nat × Nat) (h1 : x.1 < a.accept.length) (h2 : x.2 < 2 ^ 64) (k : Nat) (os : List (Nat → Option Ob)) (ho : os.length ≠ 0) (hk : obIn k 0 os = some (.box [.slc false 1 (a.accept.map B), .slc false 1 (a.next.map NT)])) :
   run EE 121 [encR x, .ptr 0 k 0] os = some (encR (begC a x), os) := by
 have ho' : ¬ 0 = os.length := fun e => ho e.symm
 have p1 : (x.1 : Int) < a.accept.length := by omega
 have g1 : ∀ v : V, (a.accept.map B).getD x.1 v = B (accN a x.1) := fun v => getD_B h1 v
 have ho1 := u64_or1 x.2 h2
 unfold begC
 generalize accN a x.1 = A at g1 ⊢
 simp only [encR, IN]
 rw [run_eq EE 121 _ _ Tryz.func121 (by decide +kernel) rfl (show 2 ≤ _ by decide)]
 dsimp only [Tryz.f121]
 cases A
 · simp only [go_sem, ho', hk, p1, g1]
 · simp only [go_sem, ho', hk, p1, g1, ho1]
theorem r123 (b : DN) (hb : Val b) (x : Nat × Nat) (k : Nat) (os : List (Nat → Option Ob)) (ho : os.length ≠ 0) (hk : obIn k 0 os = some (.box [.slc false 1 (b.accept.map B), .slc false 1 (b.next.map NT)])) :
   run EE 123 [encR x, .ptr 0 k 0] os = some (.bool (accC b x), os) := by
 have ho' : ¬ 0 = os.length := fun e => ho e.symm
 have ac := r124 b hb.ok hb.le x.2
 unfold accC
 generalize anyN b x.2 = A at ac ⊢
 simp only [DN.enc] at ac
 simp only [encR, IN]
 rw [run_eq EE 123 _ _ Tryz.func123 (by decide +kernel) rfl (show 2 ≤ _ by decide)]
 dsimp only [Tryz.f123]
 simp only [go_sem, ho', hk, ac]
theorem r125 (a b : DN) (ha : Val a) (hb : Val b) (x : Nat × Nat) (hx : inC a b x) (i : Nat) (hi : i < 3) (k1 k2 k3 : Nat) (os : List (Nat → Option Ob)) (ho : os.length ≠ 0) (hk1 : obIn k1 0 os = some (.box [.fn 121 [.ptr 0 k2 0]])) (hk2 : obIn k2 0 os = some (.box [.slc false 1 (a.accept.map B), .slc false 1 (a.next.map NT)])) (hk3 : obIn k3 0 os = some (.box [.slc false 1 (b.accept.map B), .slc false 1 (b.next.map NT)])) :
   run EE 125 [encR x, .int .i64 i, .ptr 0 k1 0, .ptr 0 k2 0, .ptr 0 k3 0] os = some (encR ((l3A (succC a b x))[i]'(by rw [l3A_len]; exact hi)), os) := by
 rw [succC_get a b x hi]
 have ho' : ¬ 0 = os.length := fun e => ho e.symm
 have p1 : (x.1 : Int) < a.next.length := by have := hx.1; have := ha.ok.1; omega
 have p2 : (i : Int) < 3 := by omega
 have g1 : ∀ v : V, (a.next.map NT).getD x.1 v = NT (a.nx x.1) := fun v => getD_NT (by rw [ha.ok.1]; exact hx.1) v
 have g3 := nx3_get (a.nx x.1) hi
 have hq := nx3_lt (nx_lt3 ha.ok x.1 hx.1) hi
 have mv := r126 b hb.ok hb.le x.2 i hi hx.2
 have hm := moveN_lt hb.ok hi x.2
 have bg := fun (b0 : Nat → Option Ob) => r121 a (nx3 (a.nx x.1) i, moveN b x.2 i) hq (p64 hb.le hm) k2 (b0 :: os) (by simp) (by rw [obIn_cons (by omega)]; exact hk2)
 generalize a.nx x.1 = t at g1 g3 bg ⊢
 generalize nx3 t i = Q at g3 bg ⊢
 generalize moveN b x.2 i = M at mv bg ⊢
 generalize begC a (Q, M) = R at bg ⊢
 simp only [DN.enc, encR, IN] at mv bg ⊢
 rw [run_eq EE 125 _ _ Tryz.func125 (by decide +kernel) rfl (show 5 ≤ _ by decide)]
 dsimp only [Tryz.f125]
 simp only [go_sem]
 rw [q_drs]
 rotate_left
 · kernel_rfl
 simp only [go_sem, ho', hk1, hk2, hk3, p1, p2, g1, g3, mv, bg]
theorem hp1 (k1 : Nat) (b : Nat → Option Ob) : ∀ (st : St) (objs : _), st.o = [b] → ([.ptr 0 k1 0] : List V).all (heldP st objs) = true := by
 intro st objs h; simp [heldP, St.lv, h]
theorem r100 (a b : DN) (ha : Val a) (hb : Val b) : run EE 100 [a.enc, b.enc] [] = some (resO (concD a b), []) := by
 have va := vd_i a ha
 have vb := vd_i b hb
 have h00 : inC a b (begC a (0, 0)) := begC_in hb ⟨ha.pos, Nat.two_pow_pos _⟩
 have ft := fun (hl : (listC2 a b).length ≤ 400) => r60 (expD (succC a b) (accC b) (listC2 a b)) (expD_ok hl).1 (expD_ok hl).2.1 (by have := (expD_ok (acc := accC b) hl).2.2; unfold listC2; omega)
 have bg := fun (b0 : Nat → Option Ob) (hk : b0 2 = some (.box [.slc false 1 (a.accept.map B), .slc false 1 (a.next.map NT)])) => r121 a (0, 0) ha.pos (by decide) 2 [b0] (by simp) hk
 have ex := fun (B0 : Nat → Option Ob) (h6 : B0 6 = some (.box [.fn 121 [.ptr 0 2 0]])) (h2 : B0 2 = some (.box [.slc false 1 (a.accept.map B), .slc false 1 (a.next.map NT)])) (h3 : B0 3 = some (.box [.slc false 1 (b.accept.map B), .slc false 1 (b.next.map NT)])) =>
   r122 (succC a b) (accC b) 400 (begC a (0, 0)) (inC a b) (by decide) (by decide) h00 (fun x hx => succC_in ha hb hx) 123 125 [.ptr 0 3 0] [.ptr 0 6 0, .ptr 0 2 0, .ptr 0 3 0] [B0] (by simp) (hp1 3 B0) (hp3 6 2 3 B0) rfl rfl
     (fun x hx b0 => r123 b hb x 3 _ (by simp) (by rw [obIn_cons (by simp)]; exact h3))
     (fun x hx i hi b0 => r125 a b ha hb x hx i hi 6 2 3 _ (by simp) (by rw [obIn_cons (by simp)]; exact h6) (by rw [obIn_cons (by simp)]; exact h2) (by rw [obIn_cons (by simp)]; exact h3)) (by kernel_rfl) (by kernel_rfl)
 have eL : expL (succC a b) 400 (begC a (0, 0)) = listC2 a b := rfl
 rw [eL] at ex
 have e16 : ((400 : Nat) : Int) = 400 := rfl
 rw [e16] at ex
 have e00 : ((0 : Nat) : Int) = 0 := rfl
 simp only [encR, IN, e00] at ex bg
 unfold concD
 generalize begC a (0, 0) = s0 at ex bg
 simp only [DN.enc] at va vb
 rw [run_eq EE 100 _ _ Tryz.func100 (by decide +kernel) rfl (show 2 ≤ _ by decide)]
 dsimp only [Tryz.f100]
 by_cases hl : (listC2 a b).length ≤ 400
 · rw [if_pos hl] at ex ⊢
   have ft := ft hl
   generalize expD (succC a b) (accC b) (listC2 a b) = d at ft ex ⊢
   generalize hr : fitD d = r at ft ⊢
   simp only [DN.enc] at ft ex
   simp only [go_sem, va, vb, Bool.not_true]
   rw [bg _ rfl]
   simp only [go_sem]
   rw [ex _ rfl rfl rfl]
   cases r with
   | none => simp only [go_sem, ft, resO]
   | some e => simp only [go_sem, ft, resO]
 · rw [if_neg hl] at ex ⊢
   simp only [go_sem, va, vb, Bool.not_true]
   rw [bg _ rfl]
   simp only [go_sem]
   rw [ex _ rfl rfl rfl]
   simp only [go_sem, resO]
theorem r127 (d : DN) (hd : Val d) (x : Nat × Nat) (k : Nat) (os : List (Nat → Option Ob)) (ho : os.length ≠ 0) (hk : obIn k 0 os = some (.box [.slc false 1 (d.accept.map B), .slc false 1 (d.next.map NT)])) :
   run EE 127 [encR x, .ptr 0 k 0] os = some (.bool (accT d x), os) := by
 have ho' : ¬ 0 = os.length := fun e => ho e.symm
 have ac := r124 d hd.ok hd.le x.2
 have e1 : ((x.1 : Int) == 1) = (x.1 == 1) := nat_beq x.1 1
 unfold accT
 generalize anyN d x.2 = A at ac ⊢
 simp only [DN.enc] at ac
 simp only [encR, IN]
 rw [run_eq EE 127 _ _ Tryz.func127 (by decide +kernel) rfl (show 2 ≤ _ by decide)]
 dsimp only [Tryz.f127]
 cases hx : (x.1 == 1)
 · rw [hx] at e1
   simp only [go_sem, ho', hk, ac, e1]
 · rw [hx] at e1
   simp only [go_sem, ho', hk, ac, e1]
theorem r128 (d : DN) (hd : Val d) (x : Nat × Nat) (hx : inT d x) (i : Nat) (hi : i < 3) (k : Nat) (os : List (Nat → Option Ob)) (ho : os.length ≠ 0) (hk : obIn k 0 os = some (.box [.slc false 1 (d.accept.map B), .slc false 1 (d.next.map NT)])) :
   run EE 128 [encR x, .int .i64 i, .ptr 0 k 0] os = some (encR ((l3A (succT d x))[i]'(by rw [l3A_len]; exact hi)), os) := by
 rw [succT_get d x hi]
 have ho' : ¬ 0 = os.length := fun e => ho e.symm
 have mv := r126 d hd.ok hd.le x.2 i hi hx.2
 have hm := moveN_lt hd.ok hi x.2
 have ho1 := u64_or1 (moveN d x.2 i) (p64 hd.le hm)
 have ac := r124 d hd.ok hd.le (moveN d x.2 i)
 unfold stp
 generalize moveN d x.2 i = M at mv ac ho1 ⊢
 generalize anyN d M = A at ac ⊢
 have e00 : ((0 : Nat) : Int) = 0 := rfl
 simp only [DN.enc, encR, IN, e00] at mv ac ⊢
 rw [run_eq EE 128 _ _ Tryz.func128 (by decide +kernel) rfl (show 3 ≤ _ by decide)]
 dsimp only [Tryz.f128]
 cases A
 · simp only [go_sem, ho', hk, mv, ac]
 · simp only [go_sem, ho', hk, mv, ac, ho1]
theorem r101 (d : DN) (hd : Val d) : run EE 101 [d.enc] [] = some (resO (starD d), []) := by
 have va := vd_i d hd
 have h00 : inT d (1, 1) := ⟨by show 1 < 2; decide, Nat.one_lt_two_pow (by have := hd.pos; omega)⟩
 have ft := fun (hl : (listT d).length ≤ 400) => r60 (expD (succT d) (accT d) (listT d)) (expD_ok hl).1 (expD_ok hl).2.1 (by have := (expD_ok (acc := accT d) hl).2.2; unfold listT; omega)
 have ex := fun (B0 : Nat → Option Ob) (h1 : B0 1 = some (.box [.slc false 1 (d.accept.map B), .slc false 1 (d.next.map NT)])) =>
   r122 (succT d) (accT d) 400 (1, 1) (inT d) (by decide) (by decide) h00 (fun x hx => succT_in hd hx) 127 128 [.ptr 0 1 0] [.ptr 0 1 0] [B0] (by simp) (hp1 1 B0) (hp1 1 B0) rfl rfl
     (fun x hx b0 => r127 d hd x 1 _ (by simp) (by rw [obIn_cons (by simp)]; exact h1))
     (fun x hx i hi b0 => r128 d hd x hx i hi 1 _ (by simp) (by rw [obIn_cons (by simp)]; exact h1)) (by kernel_rfl) (by kernel_rfl)
 have eL : expL (succT d) 400 (1, 1) = listT d := rfl
 rw [eL] at ex
 have e16 : ((400 : Nat) : Int) = 400 := rfl
 rw [e16] at ex
 have e11 : ((1 : Nat) : Int) = 1 := rfl
 simp only [encR, IN, e11] at ex
 unfold starD
 simp only [DN.enc] at va
 rw [run_eq EE 101 _ _ Tryz.func101 (by decide +kernel) rfl (show 1 ≤ _ by decide)]
 dsimp only [Tryz.f101]
 by_cases hl : (listT d).length ≤ 400
 · rw [if_pos hl] at ex ⊢
   have ft := ft hl
   generalize expD (succT d) (accT d) (listT d) = D at ft ex ⊢
   generalize hr : fitD D = r at ft ⊢
   simp only [DN.enc] at ft ex
   simp only [go_sem, va, Bool.not_true]
   rw [ex _ rfl]
   cases r with
   | none => simp only [go_sem, ft, resO]
   | some e => simp only [go_sem, ft, resO]
 · rw [if_neg hl] at ex ⊢
   simp only [go_sem, va, Bool.not_true]
   rw [ex _ rfl]
   simp only [go_sem, resO]
end Go.Ev
namespace Go.Ev
open Go Go.Proofs
set_option maxRecDepth 10000
set_option maxHeartbeats 4000000

theorem r139 (l m : List Int) (hl : l.length ≤ 1048576) (hm : m.length ≤ 1048576) : run EE 139 [.slc false 1 (l.map I), .slc false 1 (m.map I)] [] = some (.bool (l == m), []) := by
 rw [run_eq EE 139 _ _ Tryz.func139 (by decide +kernel) rfl (show 2 ≤ _ by decide)]
 dsimp only [Tryz.f139]
 cases k : ((l.length : Int) == m.length)
 · have hne : (l == m) = false := by
     rw [beq_eq_false_iff_ne]
     rintro rfl
     simp at k
   simp only [go_sem, bne, k, Bool.not_false, hne]
 have hn : l.length = m.length := by have := eq_of_beq k; omega
 simp only [go_sem, bne, k, Bool.not_true]
 refine iter_inv (fun i : Nat => i ≤ l.length) (fun i => { t := upd (upd (upd e0 5 (.int .i64 i)) 1 (.slc false 1 (m.map I))) 0 (.slc false 1 (l.map I)), b := n0, o := [], r := #[ResultVar.tmp 4], f := 139, n := 26 }) (fun i => some (.bool (l.drop i == m.drop i), [])) (fun i => l.length - i) ?_ 0 (Nat.zero_le _)
 intro i hi ih
 by_cases h : i < l.length
 · have h1 : (i : Int) < l.length := by omega
   have h2 : (i : Int) < m.length := by omega
   have w := wrap_nat (n := i) (by omega)
   have h' : i < m.length := by omega
   rw [drop_beq h h']
   simp only [go_sem, h1]
   rw [q_drs]
   rotate_left
   · kernel_rfl
   cases c : (l[i] == m[i])
   · simp only [go_sem, h1, h2, getD_map h, getD_map h', bne, c, Bool.not_false, Bool.false_and]
   · simp only [go_sem, h1, h2, w, getD_map h, getD_map h', bne, c, Bool.not_true, Bool.true_and]
     exact ih (i + 1) (by omega) (by omega)
 · have h1 : ¬ (i : Int) < l.length := by omega
   rw [List.drop_eq_nil_of_le (by omega), List.drop_eq_nil_of_le (by omega)]
   simp only [go_sem, h1]
theorem r136 (A C : List Nat) (q : Nat) (m : Bool) (hA : ∀ x ∈ A, x < q) (hC : ∀ x ∈ C, q < x) (hl : A.length + C.length ≤ 1048576) :
   run EE 136 [.slc false 1 ((A ++ (if m = true then [q] else []) ++ C).map IN), .int .i64 q] [] = some (.slc false 1 ((A ++ q :: C).map IN), []) := by
 obtain ⟨L, hL⟩ : ∃ L, L = A ++ (if m = true then [q] else []) ++ C := ⟨_, rfl⟩
 rw [← hL]
 have hLl : L.length ≤ 1048577 := by rw [hL, List.length_append, List.length_append]; cases m <;> simp <;> omega
 generalize hRES : (some (V.slc false 1 ((A ++ q :: C).map IN), []) : Option (V × List (Nat → Option Ob))) = RES
 rw [run_eq EE 136 _ _ Tryz.func136 (by decide +kernel) rfl (show 2 ≤ _ by decide)]
 dsimp only [Tryz.f136]
 simp only [go_sem]
 refine iter_inv (fun i : Nat => i ≤ A.length) (fun i => { t := upd (upd (upd e0 5 (.int .i64 i)) 1 (.int .i64 q)) 0 (.slc false 1 (L.map IN)), b := n0, o := [], r := #[ResultVar.tmp 4], f := 136, n := 48 }) (fun _ => RES) (fun i => A.length - i) ?_ 0 (Nat.zero_le _)
 intro i hi ih
 have hLA : A.length ≤ L.length := by rw [hL, List.length_append, List.length_append]; omega
 have wi := wrap_nat (n := i) (by omega)
 by_cases h : i < A.length
 · have k1 : (i : Int) < L.length := by omega
   have hg : L[i]? = some A[i] := by rw [hL, List.append_assoc, List.getElem?_append_left h, List.getElem?_eq_getElem h]
   have g : ∀ v : V, (L.map IN).getD i v = .int .i64 (A[i] : Nat) := by
     intro v
     rw [List.getD_eq_getElem?_getD, List.getElem?_map, hg]
     rfl
   have hlt : ((A[i] : Nat) : Int) < q := by have := hA _ (List.getElem_mem h); omega
   simp only [go_sem, k1, g, hlt, wi]
   exact ih (i + 1) (by omega) (by omega)
 obtain rfl : i = A.length := by omega
 have hta : (L.map IN).take A.length = A.map IN := by rw [← List.map_take, hL, List.append_assoc, List.take_left]
 cases m with
 | true =>
   have eL : L = A ++ q :: C := by rw [hL, if_pos rfl, List.append_assoc, List.singleton_append]
   rw [← eL] at hRES
   have k1 : (A.length : Int) < L.length := by rw [eL, List.length_append, List.length_cons]; omega
   have g : ∀ v : V, (L.map IN).getD A.length v = .int .i64 (q : Nat) := by
     intro v
     rw [List.getD_eq_getElem?_getD, List.getElem?_map, eL, List.getElem?_append_right (Nat.le_refl _), Nat.sub_self]
     rfl
   have kq : ¬ (q : Int) < q := by omega
   subst hRES
   simp only [go_sem, k1, g, kq]
 | false =>
   rw [if_neg (by decide), List.append_nil] at hL
   have htd : (L.map IN).drop A.length = C.map IN := by rw [← List.map_drop, hL, List.drop_left]
   have hres : A.map IN ++ [.int .i64 (q : Nat)] ++ C.map IN = (A ++ q :: C).map IN := by
     rw [List.map_append, List.map_cons, List.append_assoc, List.singleton_append]; rfl
   have hLn : L.length = A.length + C.length := by rw [hL, List.length_append]
   cases C with
   | nil =>
     have k1 : ¬ (A.length : Int) < L.length := by rw [hLn, List.length_nil]; omega
     subst hRES
     have hn0 : L.length = A.length := by rw [hLn, List.length_nil]; omega
     have htt : (L.map IN).take L.length = L.map IN := List.take_of_length_le (by rw [List.length_map]; omega)
     have hmn : min A.length L.length = A.length := by omega
     have hmm : min L.length L.length = L.length := by omega
     have q1 : (A.length : Int) ≤ L.length := by omega
     have q2 : A.length * 8 ≤ 140737488355328 := by omega
     have q3 : (A.length + 1) * 8 ≤ 140737488355328 := by omega
     have q4 : (A.length + 1 + (L.length - A.length)) * 8 ≤ 140737488355328 := by omega
     simp only [go_sem, k1, htt, hmn, hmm, hta, htd, q1, q2, q3, q4]
     rw [List.map_append]; rfl
   | cons c C =>
     have k1 : (A.length : Int) < L.length := by rw [hLn, List.length_cons]; omega
     have g : ∀ v : V, (L.map IN).getD A.length v = .int .i64 (c : Nat) := by
       intro v
       rw [List.getD_eq_getElem?_getD, List.getElem?_map, hL, List.getElem?_append_right (Nat.le_refl _), Nat.sub_self]
       rfl
     have hcq := hC c (List.mem_cons_self ..)
     have kq : ¬ (c : Int) < q := by omega
     have kq2 : ((c : Int) == q) = false := by rw [nat_beq]; simpa using (by omega : ¬ c = q)
     subst hRES
     have htt : (L.map IN).take L.length = L.map IN := List.take_of_length_le (by rw [List.length_map]; omega)
     have hmn : min A.length L.length = A.length := by omega
     have hmm : min L.length L.length = L.length := by omega
     have q1 : (A.length : Int) ≤ L.length := by omega
     have q2 : A.length * 8 ≤ 140737488355328 := by omega
     have q3 : (A.length + 1) * 8 ≤ 140737488355328 := by omega
     have q4 : (A.length + 1 + (L.length - A.length)) * 8 ≤ 140737488355328 := by omega
     have q5 : (A.length + 1 + (C.length + 1)) * 8 ≤ 140737488355328 := by rw [List.length_cons] at hl; omega
     simp only [go_sem, k1, g, kq, kq2, htt, hmn, hmm, hta, htd, q1, q2, q3, q4, q5]
     rw [List.map_append, List.map_cons, List.map_cons, List.append_assoc]; rfl
theorem put_bits (S q : Nat) (hq : q < 40) : run EE 136 [.slc false 1 ((bitsN S).map IN), .int .i64 q] [] = some (.slc false 1 ((bitsN (S ||| 2 ^ q)).map IN), []) := by
 obtain ⟨A, C, hA, hC, e1, e2⟩ := bitsN_cut S q hq
 have hl : A.length + C.length ≤ 1048576 := by
   have := bitsN_len S
   rw [e1, List.length_append, List.length_append] at this
   omega
 have := r136 A C q (S.testBit q) hA hC hl
 rw [e1, e2]
 exact this
def mvL (d : DN) (l : Nat) (m q : Nat) : Nat := m ||| 2 ^ nx3 (d.nx q) l
theorem r134 (d : DN) (ho : d.ok) (hn : d.accept.length ≤ 40) (S l : Nat) (hl : l < 3) (hS : S < 2 ^ d.accept.length) : run EE 134 [d.enc, .slc false 1 ((bitsN S).map IN), .int .i64 l] [] = some (.slc false 1 ((bitsN (moveN d S l)).map IN), []) := by
 rw [← moveN_bits l hn hS]
 have hlen := bitsN_len S
 have hmem : ∀ x ∈ bitsN S, x < d.accept.length := fun x hx => bit_lt hS (bitsN_mem.1 hx).2
 generalize bitsN S = L at hlen hmem ⊢
 have hf : (fun m q => m ||| 2 ^ nx3 (d.nx q) l) = mvL d l := rfl
 rw [hf]
 generalize hRES : (some (V.slc false 1 ((bitsN (L.foldl (mvL d l) 0)).map IN), []) : Option (V × List (Nat → Option Ob))) = RES
 have hz : (bitsN 0).map IN = [] := by
   have : bitsN 0 = [] := by decide
   rw [this]; rfl
 simp only [DN.enc]
 rw [run_eq EE 134 _ _ Tryz.func134 (by decide +kernel) rfl (show 3 ≤ _ by decide)]
 dsimp only [Tryz.f134]
 simp only [go_sem]
 rw [← hz]
 refine iter_inv (fun i : Nat => i ≤ L.length) (fun i => { t := upd (upd (upd (upd (upd e0 8 (.int .i64 i)) 7 (.slc false 1 ((bitsN ((L.take i).foldl (mvL d l) 0)).map IN))) 3 (.ptr 0 3 0)) 2 (.int .i64 l)) 1 (.slc false 1 (L.map IN)), b := upd n0 3 (some (Ob.box [.slc false 1 (d.accept.map B), .slc false 1 (d.next.map NT)])), o := [], r := #[ResultVar.tmp 6], f := 134, n := 30 }) (fun _ => RES) (fun i => L.length - i) ?_ 0 (Nat.zero_le _)
 intro i hi ih
 by_cases h : i < L.length
 rotate_left
 · have k1 : ¬ (i : Int) < L.length := by omega
   rw [List.take_of_length_le (by omega)]
   subst hRES
   simp only [go_sem, k1]
 have k1 : (i : Int) < L.length := by omega
 have k2 : (l : Int) < 3 := by omega
 have wi := wrap_nat (n := i) (by omega)
 have ihn := ih (i + 1) (by omega) (by omega)
 rw [foldl_take _ _ h] at ihn
 have hx := hmem _ (List.getElem_mem h)
 have k3 : ((L[i] : Nat) : Int) < d.next.length := by rw [ho.1]; omega
 have gl : ∀ v : V, (L.map IN).getD i v = .int .i64 (L[i] : Nat) := fun v => getD_map h v
 have gn : ∀ v : V, (d.next.map NT).getD L[i] v = NT (d.nx L[i]) := fun v => getD_NT (by rw [ho.1]; exact hx) v
 have hq := nx3_lt (nx_lt3 ho _ hx) hl
 have g3 := nx3_get (d.nx L[i]) hl
 have em : mvL d l ((L.take i).foldl (mvL d l) 0) L[i] = (L.take i).foldl (mvL d l) 0 ||| 2 ^ nx3 (d.nx L[i]) l := rfl
 rw [em] at ihn
 generalize L[i] = x at *
 generalize d.nx x = t at *
 generalize (L.take i).foldl (mvL d l) 0 = M at *
 have pb := put_bits M (nx3 t l) (by omega)
 generalize nx3 t l = Q at *
 simp only [go_sem, k1]
 rw [q_drs]
 rotate_left
 · kernel_rfl
 simp only [go_sem, k1, k2, k3, gl, gn, g3, pb, wi]
 exact ihn
theorem r135 (d : DN) (hn : d.accept.length ≤ 40) (S : Nat) (hS : S < 2 ^ d.accept.length) : run EE 135 [d.enc, .slc false 1 ((bitsN S).map IN)] [] = some (.bool (anyN d S), []) := by
 rw [← anyN_bits hn hS]
 have hlen := bitsN_len S
 have hmem : ∀ x ∈ bitsN S, x < d.accept.length := fun x hx => bit_lt hS (bitsN_mem.1 hx).2
 generalize bitsN S = L at hlen hmem ⊢
 simp only [DN.enc]
 rw [run_eq EE 135 _ _ Tryz.func135 (by decide +kernel) rfl (show 2 ≤ _ by decide)]
 dsimp only [Tryz.f135]
 simp only [go_sem]
 refine iter_inv (fun i : Nat => i ≤ L.length) (fun i => { t := upd (upd (upd e0 5 (.int .i64 i)) 2 (.ptr 0 2 0)) 1 (.slc false 1 (L.map IN)), b := upd n0 2 (some (Ob.box [.slc false 1 (d.accept.map B), .slc false 1 (d.next.map NT)])), o := [], r := #[ResultVar.tmp 4], f := 135, n := 20 }) (fun i => some (.bool ((L.drop i).any (accN d)), [])) (fun i => L.length - i) ?_ 0 (Nat.zero_le _)
 intro i hi ih
 by_cases h : i < L.length
 rotate_left
 · have k1 : ¬ (i : Int) < L.length := by omega
   rw [List.drop_eq_nil_of_le (by omega), List.any_nil]
   simp only [go_sem, k1]
 have k1 : (i : Int) < L.length := by omega
 have wi := wrap_nat (n := i) (by omega)
 have ihn := ih (i + 1) (by omega) (by omega)
 rw [List.drop_eq_getElem_cons h, List.any_cons]
 have hx := hmem _ (List.getElem_mem h)
 have k3 : ((L[i] : Nat) : Int) < d.accept.length := by omega
 have gl : ∀ v : V, (L.map IN).getD i v = .int .i64 (L[i] : Nat) := fun v => getD_map h v
 have gb : ∀ v : V, (d.accept.map B).getD L[i] v = B (accN d L[i]) := fun v => getD_B hx v
 generalize L[i] = x at *
 generalize accN d x = A at *
 simp only [go_sem, k1]
 rw [q_drs]
 rotate_left
 · kernel_rfl
 cases A
 · simp only [go_sem, k1, k3, gl, gb, wi]
   exact ihn
 · simp only [go_sem, k1, k3, gl, gb]
theorem ints_nat (l m : List Nat) (hl : l.length ≤ 1048576) (hm : m.length ≤ 1048576) : run EE 139 [.slc false 1 (l.map IN), .slc false 1 (m.map IN)] [] = some (.bool (decide (l = m)), []) := by
 have := r139 (l.map fun n : Nat => (n : Int)) (m.map fun n : Nat => (n : Int)) (by simpa using hl) (by simpa using hm)
 rw [← map_IN, ← map_IN] at this
 rw [this]
 congr 3
 rw [Bool.eq_iff_iff, beq_iff_eq, decide_eq_true_iff]
 constructor
 · intro h
   exact List.map_inj_right (fun x y e => by exact_mod_cast e) |>.1 h
 · rintro rfl; rfl
theorem r137 (l : List Tr3) (x : Tr3) (hl : l.length ≤ 1048576) (hb : ∀ y ∈ l, y.2.1 < 2 ^ 40) (hx : x.2.1 < 2 ^ 40) : run EE 137 [.slc false 3 (l.map enc3), enc3 x] [] = some (.int .i64 (if x ∈ l then (ixD l x : Int) else -1), []) := by
 generalize hRES : (some (V.int .i64 (if x ∈ l then (ixD l x : Int) else -1), []) : Option (V × List (Nat → Option Ob))) = RES
 have ex : enc3 x = .agg [.int .i64 x.1, .slc false 1 ((bitsN x.2.1).map IN), .bool x.2.2] := rfl
 rw [ex]
 rw [run_eq EE 137 _ _ Tryz.func137 (by decide +kernel) rfl (show 2 ≤ _ by decide)]
 dsimp only [Tryz.f137]
 simp only [go_sem]
 refine iter_inv (fun i : Nat => i ≤ l.length ∧ x ∉ l.take i) (fun i => { t := upd (upd (upd e0 5 (.int .i64 i)) 3 (.ptr 0 3 0)) 0 (.slc false 3 (l.map enc3)), b := upd n0 3 (some (Ob.box [.int .i64 x.1, .slc false 1 ((bitsN x.2.1).map IN), .bool x.2.2])), o := [], r := #[ResultVar.tmp 4], f := 137, n := 41 }) (fun _ => RES) (fun i => l.length - i) ?_ 0 ⟨Nat.zero_le _, by simp⟩
 rintro i ⟨hi, hn⟩ ih
 by_cases h : i < l.length
 rotate_left
 · have k1 : ¬ (i : Int) < l.length := by omega
   rw [List.take_of_length_le (by omega)] at hn
   rw [if_neg hn] at hRES
   subst hRES
   simp only [go_sem, k1]
 have k1 : (i : Int) < l.length := by omega
 have wi := wrap_nat (n := i) (by omega)
 have hy := hb _ (List.getElem_mem h)
 have hat := fun e => ixD_at (x := x) h hn e
 have hmm : l[i] = x → x ∈ l := fun e => e ▸ List.getElem_mem h
 have ihn := fun (hne : ¬ l[i] = x) => ih (i + 1) ⟨by omega, by
   rw [take_snoc h, List.mem_append, List.mem_singleton]
   rintro (hh | rfl)
   · exact hn hh
   · exact hne rfl⟩ (by omega)
 have gl : ∀ v : V, (l.map enc3).getD i v = .agg [.int .i64 l[i].1, .slc false 1 ((bitsN l[i].2.1).map IN), .bool l[i].2.2] := fun v => getD_map h v
 clear ih
 generalize l[i] = y at *
 have it := ints_nat (bitsN y.2.1) (bitsN x.2.1) (by have := bitsN_len y.2.1; omega) (by have := bitsN_len x.2.1; omega)
 have hinj := fun e => bitsN_inj hy hx e
 have e1 : ((y.1 : Int) == (x.1 : Int)) = (y.1 == x.1) := nat_beq _ _
 generalize hY : bitsN y.2.1 = Y at *
 generalize hX : bitsN x.2.1 = X at *
 simp only [go_sem, k1]
 rw [q_drs]
 rotate_left
 · kernel_rfl
 cases c1 : (y.1 == x.1)
 · rw [c1] at e1
   have hne : ¬ y = x := by rintro rfl; simp at c1
   simp only [go_sem, k1, gl, e1, wi]
   exact ihn hne
 rw [c1] at e1
 cases c2 : (y.2.2 == x.2.2)
 · have hne : ¬ y = x := by rintro rfl; simp at c2
   simp only [go_sem, k1, gl, e1, c2, wi]
   exact ihn hne
 by_cases c3 : Y = X
 · have he : y = x := by
     have h1 := eq_of_beq c1
     have h2 := eq_of_beq c2
     have h3 := hinj (by rw [c3] at hY; exact c3)
     exact Prod.ext h1 (Prod.ext h3 h2)
   rw [if_pos (hmm he), hat he] at hRES
   rw [decide_eq_true c3] at it
   subst hRES
   simp only [go_sem, k1, gl, e1, c2, it]
 · have hne : ¬ y = x := by
     rintro rfl
     exact c3 (hY.symm.trans hX)
   rw [decide_eq_false c3] at it
   simp only [go_sem, k1, gl, e1, c2, it, wi]
   exact ihn hne
end Go.Ev
