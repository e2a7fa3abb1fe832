/- Lists owned deep: made, built out of owned parts, put to one another's end. The steps put together. A function's end. -/
import Derived.Laws.Sem
import Derived.Test.YtkffkacjmhmegaaEvF
import Derived.Test.YtkffkacjmhmegaaEvG
set_option linter.unusedVariables false
set_option linter.unusedSimpArgs false
namespace Go.Ev
open Go
variable {P : Program} {G : Gh} {s : St} {a : Act} {w : World} {o : Oper}
variable {d : Option Nat} {ty : TypeId} {pos : String} {af : Array Edge} {gd : Option (Nat × Bool)}

theorem DTs.one {S β} {bs : List Nat} {l : List V} {xs : List Value} (h : DTs S β w bs l xs) : ∀ u ∈ xs, u.oneCell' = true := by
 induction h with
 | nil => intro u hu; cases hu
 | leaf hp h k ih =>
   intro u hu
   rcases List.mem_cons.1 hu with rfl | hu
   · exact (cells_one h (by rintro rfl; cases hp) (by rintro l rfl; cases hp)).2
   · exact ih u hu
 | emp k ih =>
   intro u hu
   rcases List.mem_cons.1 hu with rfl | hu
   · rfl
   · exact ih u hu
 | blk hg hc hm hs hS hk k ih1 ih2 =>
   intro u hu
   rcases List.mem_cons.1 hu with rfl | hu
   · rfl
   · exact ih2 u hu
def upF : Pl → Pl
 | .rs 0 0 => .rs 1 0
 | p => p
theorem op_appendO {x y : Operand} {t t' : TypeId} {sz : Nat} {m : List V} {v : V} (h : Rel G s a w) (hy : s.all P t' y = .uq sz m) (hv : appendO P t t' ((s.drop y).all P t x) sz m = some v) :
   OpOk P ⟨d, .call { callee := .builtin .append, args := #[x, y], argTypes := #[t, t'] }, ty, pos, af, gd⟩ G s a w v ((s.drop y).drop x) := by
 obtain ⟨G0, h0, y1, y2, y3, y4, y5⟩ := h.all P t' y
 rw [hy] at y1
 obtain ⟨r1, r2⟩ := h0.ren_rs0 upF (fun p hp => by
   unfold upF
   split
   · exact absurd rfl (hp _ _)
   · rfl)
 have y1' : OwnU (G0.ren upF) w (.rs 1 0) sz m (a.eval y) := OwnC.ren (v := .uq sz m) (p' := .rs 1 0) y1 upF rfl
 obtain ⟨G1, h1, x1, x2, x3, x4, x5⟩ := r1.all P t x
 have y1'' : OwnU G1 w (.rs 1 0) sz m (a.eval y) := OwnC.mono (v := .uq sz m) y1' ⟨fun g j c e => by rw [x4]; exact e, fun l t g e => by rw [x5]; exact e⟩ fun g hg => ⟨rfl, fun j => by rw [x4], x3 _ _ _ hg⟩
 have hlv : (s.drop y).lv = s.lv := drop_lv y
 have hlv2 : ((s.drop y).drop x).lv = s.lv := (drop_lv x).trans hlv
 obtain ⟨A, cap, hYe, news, bsm, c2, c3, c5, cD, cz, cn, cω, _⟩ := y1''.cells P
 have core : ∀ {l : List V}, growB P t = true → sz = elemSz P t → isSl P t' = true → (l.length + m.length) * P.bytesOf (elemOf P t) ≤ 140737488355328 → OwnU G1 w (.rs 0 0) sz l (a.eval x) →
     OpOk P ⟨d, .call { callee := .builtin .append, args := #[x, y], argTypes := #[t, t'] }, ty, pos, af, gd⟩ G s a w (.uq sz (l ++ m)) ((s.drop y).drop x) := by
   intro l hgr hse hsl hbd hX
   obtain ⟨e, he, hel⟩ := isSl_spec (by simp only [growB, Bool.and_eq_true] at hgr; exact hgr.1.1.1)
   rw [hel] at hbd
   obtain ⟨e', he', _⟩ := isSl_spec hsl
   obtain ⟨x', w', G', e1, e2, e3, e4⟩ := growU_core (ty := ty) (q := .rs 1 0) h1 hgr hse he he' (fun k e => by cases e) hX (by rw [hYe]; rfl) c2 c3 cD cz cn cω ⟨0, 0, rfl⟩ c5 cD.one hbd
   rw [hlv2] at e4
   rw [hlv] at x2 r2
   refine ⟨x', w', G', run_builtin ?_, e2, e3, ((y2.trans r2).trans x2).trans e4⟩
   simp only [builtin, List.map_toArray, List.map_cons, List.map_nil, Sem.run_bind, e1, Result.andThen_ok, Sem.run_pure]
 unfold appendO at hv
 split at hv
 · rename_i sz1 l hx
   split at hv
   · rename_i hc
     obtain ⟨k1, k2, k3, rfl, k5⟩ := hc
     obtain rfl := Option.some.inj hv
     rw [hx] at x1
     exact core k1 k2 k3 k5 x1
   · cases hv
 · rename_i sz1 hx
   split at hv
   · rename_i hc
     obtain ⟨k1, k2, k3, rfl, k5⟩ := hc
     obtain rfl := Option.some.inj hv
     rw [hx] at x1
     exact core (l := []) k1 k2 k3 (by simpa using k5) (OwnU.of_nil x1)
   · cases hv
 · cases hv
theorem op_makeOwn {t e : TypeId} {dd : Nat} {x y : Operand} {z : List V} {kl kc : IntKind} {n m : Int} (h : Rel G s a w) (hu : P.underlying t = some (.slice e)) (hx : s.see P 0 x = .int kl n) (hy : s.see P 0 y = .int kc m) (hz : zero P e = some z) (hlen : z.length = szOf P e) (hn : szOf P e ≠ 0) (hfl : (dflt P t).flat.length = szOf P e)
   (hb0 : P.bytesOf e ≠ 0) (h0 : 0 ≤ n) (hnm : n ≤ m) (hb : m * P.bytesOf e ≤ 140737488355328) (hd : s.b dd = none) (hnm' : n = m) :
   OpOk P ⟨d, .makeSlice t x y, ty, pos, af, gd⟩ G s a w (.oref s.lv dd n.toNat) { s with b := upd s.b dd (some (.aru (szOf P e) (List.replicate n.toNat (dflt P t)))) } := by
 obtain ⟨i, zv, h1, h2, h3, h4, h5⟩ := made_laid (G := G) hu hz hlen hn hfl n.toNat m.toNat (by omega)
 subst hnm'
 have h4' : Laid G (szOf P e) (List.replicate n.toNat (dflt P t)) (madeCells zv.cells (n.toNat * szOf P e)).toList.toArray := by simpa using h4
 have hD := h4'.dts (w := w) (by rw [Array.length_toList, h5, List.length_replicate])
 obtain ⟨k1, k2, k3⟩ := h.allocOb hd (.cells (madeCells zv.cells (n.toNat * szOf P e)) e) (.aru (szOf P e) (List.replicate n.toNat (dflt P t))) (fun w' hw' hle hs hS => ⟨_, e, [], by rw [hw']; exact heap_alloc_new _ _, by rw [h5, List.length_replicate], fun x hx => (h4.2.1 x hx).1, hS, List.nodup_nil, (fun b hb => by cases hb), hD.mono (fun v x _ e => hle.tr e) (fun b hb => by cases hb)⟩)
 have e1 := h.see P 0 x
 have e2 := h.see P 0 y
 rw [hx] at e1
 rw [hy] at e2
 refine ⟨.slice (some ⟨w.heap.size, 0, none⟩) n.toNat n.toNat, _, _, ?_, k1, OwnS.of_tr' (Tr.oref _ _ _ _ k3), k2⟩
 simp only [execOp]
 refine run_val ?_
 rw [e1.int_inv, e2.int_inv, make_run hu h1 h2 kl kc h0 hnm hb0 hb, h3]
theorem handAll_ok {e : TypeId} (hz : szOf P e ≠ 0) : ∀ {xs : List Operand} {G : Gh} {s s1 : St} {vs : List V} {k : Nat}, Rel G s a w → handAll P e s xs = some (vs, s1) → vs.all (fun v => v.flat.length == szOf P e && v.flat.all cellU) = true →
   ∃ G1, Rel G1 s1 a w ∧ Fr s.lv G w G1 w ∧ s1.lv = s.lv ∧ G1.S = G.S ∧ G1.β = G.β ∧ (∀ g j, j < k → G.ω g = some (.rs 1 j) → G1.ω g = some (.rs 1 j)) ∧ (∀ x ∈ xs.map a.eval, x.cells.size = szOf P e) ∧ vs.length = xs.length ∧
     ((xs.map a.eval).flatMap fun v => v.cells.toList).length = (vs.map V.flat).flatten.length ∧
     ∀ j, j < (vs.map V.flat).flatten.length → OwnC G1 w (.rs 1 (k + j)) ((vs.map V.flat).flatten.getD j .undef) (((xs.map a.eval).flatMap fun v => v.cells.toList).getD j Go.undef) := by
 intro xs
 induction xs with
 | nil =>
   intro G s s1 vs k h hv _
   obtain ⟨rfl, rfl⟩ := Prod.mk.inj (Option.some.inj hv)
   exact ⟨G, h, Fr.refl _ _ _, rfl, rfl, rfl, fun _ _ _ e => e, (fun x hx => by cases hx), rfl, rfl, fun j hj => absurd hj (Nat.not_lt_zero _)⟩
 | cons x xs ih =>
   intro G s s1 vs k h hv hf
   have hvv : s.all P e x ≠ .undef ∧ (∀ l, s.all P e x ≠ .tup l) ∧ ∃ vs', handAll P e (s.drop x) xs = some (vs', s1) ∧ vs = (s.all P e x).hand :: vs' := by
     unfold handAll at hv
     split at hv
     · cases hv
     · cases hv
     · rename_i h7 h8
       refine ⟨fun e => h8 e, fun l e => h7 l e, ?_⟩
       split at hv
       · rename_i vs' s2 h9
         obtain ⟨rfl, rfl⟩ := Prod.mk.inj (Option.some.inj hv)
         exact ⟨vs', h9, rfl⟩
       · cases hv
   obtain ⟨hu, ht, vs', hr, rfl⟩ := hvv
   rw [List.all_cons, Bool.and_eq_true, Bool.and_eq_true, beq_iff_eq] at hf
   obtain ⟨⟨f1, f2⟩, f3⟩ := hf
   have hhf := hand_flat f2
   have hfl' : (s.all P e x).flat.length = szOf P e := by rw [hhf, List.length_map] at f1; exact f1
   obtain ⟨G1, h1, h2, h3, h4, h5, h6⟩ := h.all P e x
   obtain ⟨q1, q2⟩ := (h2.toV ht).cells hu ht
   obtain ⟨r1, r2⟩ := h1.ren_rs0 (accF k) (fun p hp => by cases p <;> first | rfl | exact absurd rfl (hp _ _))
   obtain ⟨G2, k1, k2, k3, k4, k5, k6, k7, k8, k9, k10⟩ := ih (k := k + szOf P e) r1 hr f3
   have hsz : (a.eval x).cells.size = szOf P e := by omega
   have hlv : (s.drop x).lv = s.lv := drop_lv x
   rw [hlv] at r2 k2
   refine ⟨G2, k1, (h3.trans r2).trans k2, k3.trans hlv, k4.trans h5, k5.trans h6, fun g j hj hg => k6 g j (by omega) ?_, fun z hz => ?_, by simp [k8], ?_, fun j hj => ?_⟩
   · rw [ren_ω (h4 _ _ _ hg)]; rfl
   · rw [List.map_cons] at hz
     rcases List.mem_cons.1 hz with rfl | hz
     · exact hsz
     · exact k7 z hz
   · rw [List.map_cons, List.flatMap_cons, List.length_append, k9, List.map_cons, List.flatten_cons, List.length_append, Array.length_toList, f1, hsz]
   · rw [List.map_cons, List.flatten_cons, List.length_append, f1] at hj
     rw [List.map_cons, List.flatten_cons, List.map_cons, List.flatMap_cons]
     by_cases hlt : j < szOf P e
     · have e1 : ((s.all P e x).hand.flat ++ (vs'.map V.flat).flatten).getD j .undef = (s.all P e x).hand.flat.getD j .undef := by
         simp only [List.getD_eq_getElem?_getD]
         rw [List.getElem?_append_left (by omega)]
       have e2 : ((a.eval x).cells.toList ++ ((xs.map a.eval).flatMap fun v => v.cells.toList)).getD j Go.undef = (a.eval x).cells.getD j Go.undef := by
         simp only [List.getD_eq_getElem?_getD, Array.getD_eq_getD_getElem?]
         rw [List.getElem?_append_left (by simp; omega)]
         simp
       rw [e1, e2, hhf, getD_handC]
       have h8 := handC_view ((q2 j (by omega)).ren (accF k) (p' := .rs 1 (k + j)) rfl)
       refine h8.mono ⟨fun g i c e => by rw [k4]; exact e, fun l t g e => by rw [k5]; exact e⟩ fun g hg => ⟨rfl, fun i => by rw [k4], k6 g _ (by omega) hg⟩
     · have e1 : ((s.all P e x).hand.flat ++ (vs'.map V.flat).flatten).getD j .undef = (vs'.map V.flat).flatten.getD (j - szOf P e) .undef := by
         simp only [List.getD_eq_getElem?_getD]
         rw [List.getElem?_append_right (by omega), f1]
       have e2 : ((a.eval x).cells.toList ++ ((xs.map a.eval).flatMap fun v => v.cells.toList)).getD j Go.undef = ((xs.map a.eval).flatMap fun v => v.cells.toList).getD (j - szOf P e) Go.undef := by
         simp only [List.getD_eq_getElem?_getD]
         rw [List.getElem?_append_right (by simp; omega)]
         simp [hsz]
       rw [e1, e2, show k + j = k + szOf P e + (j - szOf P e) by omega]
       exact k10 _ (by omega)
def ownF : Pl → Pl
 | .rs 1 _ => .rs 0 0
 | p => p
theorem op_buildOwn {t e : TypeId} {n : Nat} {ps : Array (Nat × Operand)} {vs z : List V} {s1 : St} (h : Rel G s a w) (hu : P.underlying t = some (.slice e)) (hz : szOf P e ≠ 0) (hzero : zero P e = some z) (ho : inOrder 0 ps.toList = true) (hn : ps.size = n) (hsm : n * szOf P e ≤ 16777216)
   (ht : handAll P e s (ps.toList.map (·.2)) = some (vs, s1)) (hf : vs.all (fun v => v.flat.length == szOf P e && v.flat.all cellU) = true) : OpOk P ⟨d, .buildSlice t n ps, ty, pos, af, gd⟩ G s a w (.uq (szOf P e) vs) s1 := by
 obtain ⟨G1, h1, h2, h3, h4, h5, _, h7, h8, h9, h10⟩ := handAll_ok (k := 0) hz h ht hf
 have hxs : (ps.toList.map (·.2)).map a.eval = ps.toList.map fun p => a.eval p.2 := by rw [List.map_map]; rfl
 rw [hxs] at h7 h9 h10
 have hcu : (vs.map V.flat).flatten.all cellU = true := by
   rw [List.all_eq_true]
   intro u hu
   obtain ⟨y, hy, hu⟩ := List.mem_flatten.1 hu
   obtain ⟨v, hv, rfl⟩ := List.mem_map.1 hy
   have := List.all_eq_true.1 hf v hv
   rw [Bool.and_eq_true] at this
   exact List.all_eq_true.1 this.2 u hu
 have hs : ∀ x ∈ vs, x.flat.length = szOf P e := fun x hx => by
   have := List.all_eq_true.1 hf x hx
   rw [Bool.and_eq_true, beq_iff_eq] at this
   exact this.1
 obtain ⟨bs, b1, b2, b3⟩ := DTs.of_own (p := Pl.rs 1) (fun i j e => by injection e) (k := 0) h9.symm hcu h10
 obtain ⟨r1, r2⟩ := h1.ren_rs0 ownF (fun p hp => by
   unfold ownF
   split
   · exact absurd rfl (hp _ _)
   · rfl)
 have hlen : vs.length = n := by rw [h8, List.length_map, Array.length_toList, hn]
 obtain ⟨q1, q2, q3, _⟩ := r1.allocRow 0 (((ps.toList.map fun p => a.eval p.2).flatMap fun v => v.cells.toList).toArray) e (.rs 0 0)
 have hωb : ∀ b ∈ bs, (G1.ren ownF).ω b = some (.rs 0 0) := fun b hb => by
   obtain ⟨j, _, e⟩ := b2 b hb
   rw [ren_ω e]; rfl
 have hne : ∀ b ∈ bs, b ≠ w.heap.size := fun b hb => Nat.ne_of_lt (r1.lim _ _ (hωb b hb))
 rw [h3] at q3 r2
 refine ⟨.slice (some ⟨w.heap.size, 0, none⟩) n n, _, _, ?_, q1, ?_, (h2.trans r2).trans q3⟩
 · simp only [execOp]
   exact run_val (buildSlice_run hu hz hzero ho hn hsm h7 w)
 · rw [← hlen]
   refine OwnU.mk (bs := bs) (List.nodup_cons.2 ⟨fun hb => hne _ hb rfl, b1⟩) (fun b hb => ?_) (heap_alloc_new _ _) ?_ (Nat.le_refl _) hs (fun j => ?_) ?_
   · rcases List.mem_cons.1 hb with rfl | hb
     · show (if w.heap.size = w.heap.size then _ else _) = _
       rw [if_pos rfl]
     · show (if b = w.heap.size then _ else _) = _
       rw [if_neg (hne b hb)]
       exact hωb b hb
   · rw [List.size_toArray, h9, flat_len hs]
   · show (if w.heap.size = w.heap.size then (if j < 0 then _ else _) else _) = _
     rw [if_pos rfl, if_neg (by omega)]
   · have e1 : (((ps.toList.map fun p => a.eval p.2).flatMap fun v => v.cells.toList).toArray.toList.take (vs.length * szOf P e)) = (ps.toList.map fun p => a.eval p.2).flatMap fun v => v.cells.toList := by
       rw [List.toList_toArray, List.take_of_length_le (by rw [h9, flat_len hs]; exact Nat.le_refl _)]
     rw [e1]
     refine b3.mono (fun v x _ e => e.mono q2.S q2.β) fun b hb => ⟨alloc_old _ _ (r1.lim _ _ (hωb b hb)), fun j => ?_⟩
     show (if b = w.heap.size then _ else _) = _
     rw [if_neg (hne b hb)]
     rfl
end Go.Ev
namespace Go.Ev
open Go
variable {P : Program} {G : Gh} {s : St} {a : Act} {w : World} {o : Oper}
variable {d : Option Nat} {ty : TypeId} {pos : String} {af : Array Edge} {gd : Option (Nat × Bool)}

theorem pk {x : Option V} {v : V} {s1 : St} (h : x.map (·, s) = some (v, s1)) : x = some v ∧ s1 = s := by
 obtain ⟨u, hu, he⟩ := Option.map_eq_some_iff.1 h
 obtain ⟨rfl, rfl⟩ := Prod.mk.inj he
 exact ⟨hu, rfl⟩
theorem evV_ok {H : Hint} {dd : Nat} {ty' : TypeId} {op : Op} {v : V} {s1 : St} (h : Rel G s a w) (hth : ∀ {i v s1}, thaw s (s.t i) = some (v, s1) → ∃ G', Rel G' s1 a w ∧ OwnS G' w Pl.rs v (a.eval (.tmp i)) ∧ Fr s.lv G w G' w) (hv : evV P H dd ty op s = some (v, s1)) : OpOk P ⟨d, op, ty, pos, af, gd⟩ G s a w v s1 := by
 have mv : ∀ x : Operand, (op = .move x ∨ op = .assign x) → (match x with
   | .tmp i => if memN dd H.own then thaw s (s.t i) else if memN dd H.frz then s.tree P ty (.tmp i) else if memN dd H.take then (if memN dd H.make then uMake (s.drop x) dd (s.t i) else some (s.t i, s.drop x)) else some ((s.t i).view, s)
   | x => some (rd P s.t ty x, s)) = some (v, s1) → OpOk P ⟨d, op, ty, pos, af, gd⟩ G s a w v s1 := by
   intro x hx hv
   split at hv
   · split at hv
     · obtain ⟨G', k1, k2, k3⟩ := hth hv
       exact ⟨_, w, G', by rcases hx with rfl | rfl <;> rfl, k1, k2, k3⟩
     split at hv
     · exact op_frz h op hx hv
     · split at hv
       · split at hv
         · exact op_takeM h op hx hv
         · obtain ⟨rfl, rfl⟩ := Prod.mk.inj (Option.some.inj hv)
           exact op_take h op hx
       · obtain ⟨rfl, rfl⟩ := Prod.mk.inj (Option.some.inj hv)
         exact op_move h op hx
   · rename_i hn
     obtain ⟨rfl, rfl⟩ := Prod.mk.inj (Option.some.inj hv)
     exact op_const h op hx fun i e => hn i e
 unfold evV at hv
 split at hv
 · exact mv _ (.inl rfl) hv
 · exact mv _ (.inr rfl) hv
 · -- pick
   split at hv
   · rename_i cb hc
     obtain ⟨rfl, rfl⟩ := Prod.mk.inj (Option.some.inj hv)
     exact op_pick h hc
   · cases hv
 · -- alloc
   split at hv
   · rename_i z hb hz
     split at hv
     · obtain ⟨rfl, rfl⟩ := Prod.mk.inj (Option.some.inj hv)
       exact op_alloc h hb hz
     · cases hv
   · cases hv
 · -- box
   split at hv
   · cases hv
   · cases hv
   · rename_i u hb ht hu
     split at hv
     · obtain ⟨rfl, rfl⟩ := Prod.mk.inj (Option.some.inj hv)
       exact op_box h hb rfl hu ht
     · cases hv
   · cases hv
 · -- build
   split at hv
   · rename_i fs z hu hz
     split at hv
     · rename_i hf
       obtain ⟨r, hr, he⟩ := Option.map_eq_some_iff.1 hv
       obtain ⟨rfl, rfl⟩ := Prod.mk.inj he
       exact op_build h hu hz hf hr
     · cases hv
   · rename_i n e z hu hz
     split at hv
     · rename_i hc
       simp only [Bool.and_eq_true, bne_iff_ne, ne_eq, beq_iff_eq, decide_eq_true_eq] at hc
       obtain ⟨⟨⟨⟨h1, h2⟩, h3⟩, h4⟩, h5⟩ := hc
       split at hv
       · rename_i vs s2 ht
         split at hv
         · rename_i hf
           obtain ⟨rfl, rfl⟩ := Prod.mk.inj (Option.some.inj hv)
           exact op_buildArray h hu hz h3 h4 h1 h2 ht hf
         · cases hv
       · cases hv
     · cases hv
   · cases hv
 · -- buildSlice
   rename_i t n ps
   split at hv
   · split at hv
     · rename_i hc
       simp only [Bool.and_eq_true, bne_iff_ne, ne_eq, beq_iff_eq, decide_eq_true_eq] at hc
       obtain ⟨⟨⟨⟨⟨h1, h2⟩, h3⟩, h4⟩, h5⟩, h6⟩ := hc
       obtain ⟨e, he, hel⟩ := isSl_spec h1
       obtain ⟨z, hz⟩ := Option.isSome_iff_exists.1 h6
       have hes : elemSz P t = szOf P e := by unfold elemSz; rw [hel]
       rw [hes] at h4 h5 hv
       rw [hel] at hz hv
       split at hv
       · rename_i vs s2 ht
         split at hv
         · rename_i hf
           obtain ⟨rfl, rfl⟩ := Prod.mk.inj (Option.some.inj hv)
           rw [Bool.and_eq_true] at hf
           exact op_buildOwn h he h4 hz h2 h3 h5 ht hf.1
         · cases hv
       · cases hv
     · cases hv
   split at hv
   · rename_i hc
     simp only [Bool.and_eq_true, bne_iff_ne, ne_eq, beq_iff_eq, decide_eq_true_eq] at hc
     obtain ⟨⟨⟨⟨⟨h1, h2⟩, h3⟩, h4⟩, h5⟩, h6⟩ := hc
     obtain ⟨e, he, hel⟩ := isSl_spec h1
     obtain ⟨z, hz⟩ := Option.isSome_iff_exists.1 h6
     have hes : elemSz P t = szOf P e := by unfold elemSz; rw [hel]
     rw [hes] at h4 h5 hv
     rw [hel] at hz hv
     split at hv
     · rename_i vs s2 ht
       split at hv
       · rename_i hf
         split at hv
         · split at hv
           · rename_i hb
             obtain ⟨rfl, rfl⟩ := Prod.mk.inj (Option.some.inj hv)
             exact op_buildArr h he h4 hz h2 h3 h5 ht hf hb
           · cases hv
         · obtain ⟨rfl, rfl⟩ := Prod.mk.inj (Option.some.inj hv)
           exact op_buildSlice h he h4 hz h2 h3 h5 ht hf
       · cases hv
     · cases hv
   · cases hv
 · exact op_load h hv
 · -- nil
   split at hv <;> first
     | (cases hv; done)
     | (rename_i hc
        obtain ⟨rfl, rfl⟩ := Prod.mk.inj (Option.some.inj hv)
        refine op_nil h hc ?_
        first
         | exact .inl ⟨_, _, _, rfl⟩
         | exact .inr (.inl ⟨_, rfl⟩)
         | exact .inr (.inr (.inl ⟨_, _, _, _, rfl⟩))
         | exact .inr (.inr (.inr ⟨_, _, rfl⟩)))
 · split at hv
   · rename_i hn
     obtain ⟨k, rfl⟩ := pk hv; exact op_nilCmp h hn k
   · obtain ⟨k, rfl⟩ := pk hv; exact op_bin h k
 · obtain ⟨k, rfl⟩ := pk hv; exact op_un h k
 · obtain ⟨k, rfl⟩ := pk hv; exact op_convert h k
 · -- makeFunc
   split at hv
   · rename_i hf
     obtain ⟨cs, hcs, he⟩ := Option.map_eq_some_iff.1 hv
     obtain ⟨rfl, rfl⟩ := Prod.mk.inj he
     rename_i first caps
     obtain rfl : first = #[] := Array.isEmpty_iff.1 hf
     exact op_makeFunc h hcs
   · cases hv
 · -- makeMap
   split at hv
   · rename_i hb
     obtain ⟨rfl, rfl⟩ := Prod.mk.inj (Option.some.inj hv)
     exact op_makeMap h hb
   · cases hv
 · -- makeSlice
   rename_i t l c
   split at hv
   · rename_i n m z hx hy hz
     split at hv
     · rename_i hc
       obtain ⟨h1, h2, h3, h4, h5⟩ := hc
       obtain ⟨e, he, hel⟩ := isSl_spec h1
       have hes : elemSz P t = szOf P e := by unfold elemSz; rw [hel]
       rw [hes] at h2 h4 h5 hv
       rw [hel] at hz h3 hv
       split at hv
       · rename_i hr
         split at hv
         · split at hv
           · rename_i hb
             obtain ⟨rfl, rfl⟩ := Prod.mk.inj (Option.some.inj hv)
             exact op_makeArr h he hx hy hz h4 h2 h5 h3 hr.1 hr.2.1 hr.2.2 hb
           · cases hv
         · split at hv
           · split at hv
             · rename_i hb
               split at hv
               · rename_i hnm
                 obtain ⟨rfl, rfl⟩ := Prod.mk.inj (Option.some.inj hv)
                 exact op_makeOwn h he hx hy hz h4 h2 h5 h3 hr.1 hr.2.1 hr.2.2 hb hnm.1
               · cases hv
             · cases hv
           · obtain ⟨rfl, rfl⟩ := Prod.mk.inj (Option.some.inj hv)
             exact op_make h he hx hy hz h4 h2 h5 h3 hr.1 hr.2.1 hr.2.2
       · cases hv
     · cases hv
   · cases hv
 · -- slice
   split at hv
   · rename_i l r m hl hr hm
     obtain ⟨k, rfl⟩ := pk hv
     exact op_slice h hl hr hm k
   · cases hv
 · obtain ⟨k, rfl⟩ := pk hv; exact op_fieldAddr h k
 · obtain ⟨k, rfl⟩ := pk hv; exact op_field h k
 · obtain ⟨k, rfl⟩ := pk hv; exact op_indexAddr h k
 · obtain ⟨k, rfl⟩ := pk hv; exact op_index h k
 · split at hv
   · rename_i kt e hu
     obtain ⟨k, rfl⟩ := pk hv; exact op_lookup h hu k
   · cases hv
 · -- extract
   split at hv
   · split at hv
     · rename_i u l hu
       obtain ⟨x, hx, he⟩ := Option.map_eq_some_iff.1 hv
       obtain ⟨rfl, rfl⟩ := Prod.mk.inj he
       have hop := op_extract (d := some dd) (ty := ty) (pos := pos) (af := af) (gd := gd) (P := P) h hu hx
       split
       · exact hop.settle rfl
       · exact hop
     · cases hv
   · cases hv
 · -- builtins
   rename_i b args argTypes
   obtain ⟨args⟩ := args
   obtain ⟨argTypes⟩ := argTypes
   dsimp only at hv
   split at hv
   · obtain ⟨k, rfl⟩ := pk hv; exact op_len h k
   · obtain ⟨k, rfl⟩ := pk hv; exact op_min h k
   · obtain ⟨k, rfl⟩ := pk hv; exact op_max h k
   · split at hv
     · split at hv
       · rename_i hy
         obtain ⟨u, hu, he⟩ := Option.map_eq_some_iff.1 hv
         obtain ⟨rfl, rfl⟩ := Prod.mk.inj he
         exact op_appendO h hy hu
       · cases hv
     · obtain ⟨u, hu, he⟩ := Option.map_eq_some_iff.1 hv
       obtain ⟨rfl, rfl⟩ := Prod.mk.inj he
       exact op_appendU h hu
   · cases hv
 · cases hv
theorem evU_ok {H : Hint} {op : Op} {s1 : St} (h : Rel G s a w) (hv : evU P H op s = some s1) : OpU P ⟨d, op, ty, pos, af, gd⟩ G s a w s1 := by
 unfold evU at hv
 split at hv
 · split at hv
   · exact op_storeM mkOk_M h hv
   · split at hv
     · exact op_storeM mkOk_F h hv
     · exact op_store h hv
 · exact op_map h hv _ (.inl rfl)
 · exact op_map h hv _ (.inr rfl)
 · cases hv
end Go.Ev
namespace Go.Ev
open Go
variable {P : Program} {G : Gh} {s : St} {a : Act} {w : World} {o : Oper}
variable {d : Option Nat} {ty : TypeId} {pos : String} {af : Array Edge} {gd : Option (Nat × Bool)}

theorem pureC_flat {v : V} (h : pureC v = true) : v.flat.all pureC = true := by
 cases v <;> first | (simpa [V.flat] using h) | cases h
theorem all_getD {l : List V} (h : l.all pureC = true) {i : Nat} (hi : i < l.length) : pureC (l.getD i .undef) = true := by
 rw [List.getD_eq_getElem?_getD, List.getElem?_eq_getElem hi]
 exact List.all_eq_true.1 h _ (List.getElem_mem hi)
theorem Tr.pure {S β} {v : V} {x : Value} (h : Tr S β v x) (β' : Nat → Nat → Option Nat) : v.flat.all pureC = true → Tr S β' v x := by
 induction h with
 | undef x => exact fun _ => .undef x
 | bool b => exact fun _ => .bool b
 | int k n => exact fun _ => .int k n
 | str s => exact fun _ => .str s
 | slc0 sz a cap => exact fun _ => .slc0 sz a cap
 | slc sz l b o cap c hc hs hS0 hT ih =>
   intro _
   refine .slc sz l b o cap c hc hs hS0 fun i j hi hj => ih i j hi hj ?_
   have hm : l.getD i .undef ∈ l := by
     rw [List.getD_eq_getElem?_getD, List.getElem?_eq_getElem hi]
     exact List.getElem_mem hi
   obtain ⟨h1, h2⟩ := hs _ hm
   exact pureC_flat (all_getD h2 (by omega))
 | agg l cs hl hT ih => exact fun hp => .agg l cs hl fun i hi => ih i hi (pureC_flat (all_getD hp hi))
 | ptr lv t off g h => intro hp; cases hp
 | imp l b o c hp hS0 hT ih => exact fun _ => .imp l b o c hp hS0 fun j hj => ih j hj (pureC_flat (all_getD hp hj))
 | eptr lv t i g sz h => intro hp; cases hp
 | aref lv t n g cap h hc => intro hp; cases hp
 | oref lv t n g h => intro hp; cases hp
 | mp lv t g h => intro hp; cases hp
 | fn f caps cs hl hT ih =>
   intro hp
   cases caps with
   | nil => exact .fn f [] cs hl fun i hi => absurd hi (Nat.not_lt_zero _)
   | cons c l => cases hp
 | nilp => exact fun _ => .nilp
 | nilfn => exact fun _ => .nilfn

theorem obIn_lt {t : Nat} : ∀ (o : List (Nat → Option Ob)) {l : Nat} {ob : Ob}, obIn t l o = some ob → l < o.length := by
 intro o
 induction o with
 | nil => intro l ob h; cases h
 | cons f o ih =>
   intro l ob h
   unfold obIn at h
   split at h
   · simp; omega
   · have := ih h; simp; omega
theorem ob_outer {t l : Nat} (h : l < s.o.length) : s.ob l t = obIn t l s.o := by
 show (if l = s.o.length then s.b t else obIn t l s.o) = _
 rw [if_neg (by omega)]
theorem ob_inner {t : Nat} : s.ob s.lv t = s.b t := by
 show (if s.o.length = s.o.length then s.b t else obIn t s.o.length s.o) = _
 rw [if_pos rfl]
theorem ob_lt {t l : Nat} {ob : Ob} (h : s.ob l t = some ob) : l ≤ s.lv := by
 have := obIn_lt _ h
 simp [St.lv] at *; omega

theorem outC_pure {v : V} (h : ∀ sz l, v ≠ .uq sz l) : v.outC = pureC v.viewC := by cases v <;> first | rfl | exact absurd rfl (h _ _)
theorem pure_outC {v : V} (h : pureC v.viewC = true) : v.outC = true := by
 by_cases hq : ∃ sz l, v = .uq sz l
 · obtain ⟨_, _, rfl⟩ := hq; rfl
 · rw [outC_pure fun sz l e => hq ⟨_, _, e⟩]; exact h
theorem OwnC.pureβ {p : Pl} {v : V} {x : Value} (h : OwnC G w p v x) (hp : v.outC = true) (β : Nat → Nat → Option Nat) : OwnC { G with β := β } w p v x := by
 by_cases hq : ∃ sz l, v = .uq sz l
 · obtain ⟨sz, l, rfl⟩ := hq
   obtain ⟨bs, h1, h2, h3⟩ := (h : OwnU G w p sz l x)
   exact ⟨bs, h1, h2, h3.mono (fun v x hp hT => hT.pure β (pureC_flat hp)) fun _ _ => ⟨rfl, fun _ => rfl⟩⟩
 rw [outC_pure fun sz l e => hq ⟨_, _, e⟩] at hp
 by_cases ho : ∃ sz l, v = .slc true sz l
 · obtain ⟨sz, l, rfl⟩ := ho
   exact ⟨h.1.pure β (pureC_flat hp), h.2⟩
 · rw [OwnC.eq (fun sz l e => ho ⟨_, _, e⟩) (fun sz l e => hq ⟨_, _, e⟩) (fun l e => by subst e; cases hp)] at h ⊢
   refine h.pure β (pureC_flat ?_)
   have : v.viewC = v := by
     cases v <;> try rfl
     · rename_i own sz l
       cases own
       · rfl
       · exact absurd ⟨_, _, rfl⟩ ho
     · exact absurd ⟨_, _, rfl⟩ hq
     · cases hp
   rw [this] at hp; exact hp
theorem ownS_C {p : Nat → Nat → Pl} {v : V} {x : Value} (ha : ∀ l, v ≠ .agg l) (ht : ∀ l, v ≠ .tup l) : OwnS G w p v x = OwnC G w (p 0 0) v x := by
 unfold OwnS
 split
 · exact absurd rfl (ht _)
 · unfold OwnV
   split
   · exact absurd rfl (ha _)
   · rfl
theorem OwnS.pureβ {p : Nat → Nat → Pl} {v : V} {x : Value} (h : OwnS G w p v x) (hp : v.flat.all V.outC = true) (β : Nat → Nat → Option Nat) : OwnS { G with β := β } w p v x := by
 cases v
 case tup l => cases hp
 case agg l =>
   obtain ⟨cs, hx, hl, hT⟩ := h
   refine ⟨cs, hx, hl, fun j hj => (hT j hj).pureβ ?_ β⟩
   have hp' : l.all V.outC = true := hp
   rw [List.getD_eq_getElem?_getD, List.getElem?_eq_getElem hj]
   exact List.all_eq_true.1 hp' _ (List.getElem_mem hj)
 all_goals
   rw [ownS_C (fun l e => by cases e) (fun l e => by cases e)] at h ⊢
   refine OwnC.pureβ (G := G) h ?_ β
   simpa [V.flat] using hp
structure Done (lv : Nat) (G : Gh) (w : World) (o : List (Nat → Option Ob)) (v : V) (x : Value) (w' : World) (G' : Gh) : Prop where
 own : ∀ β, OwnS { G' with β := β } w' Pl.rs v x
 fr : Fr lv G w G' w'
 len : o.length = lv
 obj : ∀ l t ob, obIn t l o = some ob → ∃ g, G'.β l t = some g ∧ G'.ω g = some (.ob l t) ∧ ObR G' w' l t g ob
 dom : ∀ l t g, l < lv → G'.β l t = some g → ∃ ob, obIn t l o = some ob
 imm : ∀ g j c, G'.S g j = some c → w'.cell? ⟨g, j, none⟩ = some c
 lim : ∀ g p, G'.ω g = some p → g < w'.heap.size
theorem Done.of_rel {G' : Gh} {s1 : St} {v : V} {x : Value} (h : Rel G' s1 a w) (hl : s1.lv = s.lv) (hf : Fr s.lv G w G' w) (hv : ∀ β, OwnS { G' with β := β } w Pl.rs v x) : Done s.lv G w s1.o v x w G' :=
 ⟨hv, hf, hl, fun l t ob ho => h.obj l t ob (by rw [ob_outer (obIn_lt _ ho)]; exact ho), fun l t g hlt hg => by
   obtain ⟨ob, ho⟩ := h.dom l t g hg
   rw [ob_outer (by rw [← hl] at hlt; exact hlt)] at ho
   exact ⟨ob, ho⟩, h.imm, h.lim⟩

def resR (P : Program) (a : Act) (r : ResultVar) : Sem Value := match r with
 | .tmp t => pure (a.tmps.getD t Go.undef)
 | .cell c ty => do loadVar ty (← asAddr (a.tmps.getD c Go.undef))
theorem run_val_inv {m : Sem Value} {x : Value} {w w' : World} (h : ((do pure (Next.value (← m)) : Sem Next)).run P w = .ok (.value x) w') : m.run P w = .ok x w' := by
 simp only [Sem.run_bind] at h
 cases hm : m.run P w with
 | ok y w1 =>
   rw [hm] at h
   simp only [Result.andThen_ok, Sem.run_pure, Result.ok.injEq, Next.value.injEq] at h
   rw [h.1, h.2]
 | halt y w1 => rw [hm] at h; cases h
theorem load_res {c : Nat} {t : TypeId} {x : Value} (h : (execOp a.eval ⟨d, .load t (.tmp c), ty, pos, af, gd⟩).run P w = .ok (.value x) w) : (resR P a (.cell c t)).run P w = .ok x w := by
 have := run_val_inv (m := Instr.loadAt t (a.eval (.tmp c))) h
 unfold Instr.loadAt at this
 unfold resR
 simp only [Sem.run_bind] at this ⊢
 have he : a.eval (.tmp c) = a.tmps.getD c Go.undef := rfl
 rw [he] at this
 generalize a.tmps.getD c Go.undef = u at this
 cases u <;> try (cases this; done)
 rename_i p
 cases p with
 | none => simp [Instr.sureAddr, Sem.run_bind, asAddr] at this
 | some p => simpa [Instr.sureAddr, asAddr] using this
theorem results_one {fn : Func} {r : ResultVar} {x : Value} (hr : fn.results.toList = [r]) (h : (resR P a r).run P w = .ok x w) : (results fn a.tmps).run P w = .ok x w := by
 obtain ⟨l, hl⟩ : ∃ l, fn.results = ⟨l⟩ := ⟨fn.results.toList, rfl⟩
 have : fn.results = #[r] := by rw [hl] at hr ⊢; simp at hr; rw [hr]
 unfold results
 rw [this]
 unfold resR at h
 cases r <;> simp [Sem.run_bind] at h ⊢ <;> simp [h]

theorem Tr.view_eq {S β} {v : V} {x : Value} (h : Tr S β v x) : v.view = v := by
 cases v
 case agg l =>
   obtain ⟨cs, _, hl, hT⟩ := h.agg_inv
   simp only [V.view, V.agg.injEq]
   refine List.ext_getElem (by simp) fun i h1 h2 => ?_
   have h3 := hT i h2
   simp only [List.getD_eq_getElem?_getD, List.getElem?_eq_getElem h2, Option.getD_some] at h3
   rw [List.getElem_map]
   generalize l[i] = y at h3
   cases y <;> try rfl
   · rename_i own sz m
     cases own
     · rfl
     · cases h3
   · cases h3
   · cases h3
 case uq => cases h
 case nw => cases h
 case slc own sz l =>
   cases own
   · rfl
   · cases h
 case tup l => cases h
 all_goals rfl
theorem vLoad_lv {tk : Bool} {t : TypeId} {u v : V} {s1 : St} (h : vLoad P s tk t u = some (v, s1)) : s1.lv = s.lv := by
 unfold vLoad at h
 split at h
 · split at h
   · split at h
     · split at h <;> obtain ⟨_, rfl⟩ := Prod.mk.inj (Option.some.inj h)
       · exact setOb_lv _ _ _
       · rfl
     · cases h
   · cases h
 · split at h
   · obtain ⟨_, rfl⟩ := Prod.mk.inj (Option.some.inj h); rfl
   · cases h
 · split at h
   · split at h
     · obtain ⟨_, rfl⟩ := Prod.mk.inj (Option.some.inj h); rfl
     · cases h
   · split at h
     · obtain ⟨_, rfl⟩ := Prod.mk.inj (Option.some.inj h); rfl
     · cases h
   · cases h
 · cases h
theorem resC_ok {s s1 : St} {G : Gh} {j : Nat} {v v' : V} {x : Value} (h : Rel G s a w) (hX : OwnC G w (.rs 0 j) v x) (hv : resC s v = some (v', s1)) : ∃ G', Rel G' s1 a w ∧ Still G s w G' s1 ∧ OwnC G' w (.rs 0 j) v' x ∧ v'.outC = true := by
 unfold resC at hv
 split at hv
 · rename_i lv u n
   obtain ⟨y, hy, he⟩ := Option.map_eq_some_iff.1 hv
   obtain ⟨rfl, rfl⟩ := Prod.mk.inj he
   obtain ⟨G', h1, h2⟩ := h.frz (.aref lv u n)
   have h3 : Tr G.S G.β (.aref lv u n) x := hX
   obtain ⟨k1, k2, k3, k4⟩ := tree_tr h1 (h2.le.tr h3) hy
   have hsl : ∃ sz l, y = .slc false sz l := by
     unfold tree at hy
     dsimp only at hy
     split at hy
     · split at hy
       · exact ⟨_, _, (Option.some.inj hy).symm⟩
       · cases hy
     · cases hy
   obtain ⟨sz, l, rfl⟩ := hsl
   exact ⟨G', h1, h2, k1, rfl⟩
 · split at hv
   · rename_i hp
     obtain ⟨rfl, rfl⟩ := Prod.mk.inj (Option.some.inj hv)
     exact ⟨G, h, .refl, hX, hp⟩
   · cases hv
theorem resCs_ok {X : Nat → Value} : ∀ {l : List V} {G : Gh} {s : St} {k : Nat} {l' : List V} {s1 : St}, Rel G s a w → (∀ j, j < l.length → OwnC G w (.rs 0 (k + j)) (l.getD j .undef) (X (k + j))) → resCs s l = some (l', s1) →
   ∃ G', Rel G' s1 a w ∧ Still G s w G' s1 ∧ l'.length = l.length ∧ l'.all V.outC = true ∧ ∀ j, j < l.length → OwnC G' w (.rs 0 (k + j)) (l'.getD j .undef) (X (k + j)) := by
 intro l
 induction l with
 | nil =>
   intro G s k l' s1 h hX hv
   obtain ⟨rfl, rfl⟩ := Prod.mk.inj (Option.some.inj hv)
   exact ⟨G, h, .refl, rfl, rfl, fun j hj => absurd hj (Nat.not_lt_zero _)⟩
 | cons c l ih =>
   intro G s k l' s1 h hX hv
   unfold resCs at hv
   split at hv
   · rename_i c' s2 h1
     split at hv
     · rename_i l2 s3 h2
       obtain ⟨rfl, rfl⟩ := Prod.mk.inj (Option.some.inj hv)
       obtain ⟨G1, a1, a2, a3, a4⟩ := resC_ok h (hX 0 (by simp)) h1
       have own1 : ∀ {p : Pl} {v : V} {x : Value} {G G' : Gh} {s s' : St}, Still G s w G' s' → (∃ c j, p = .rs c j) → OwnC G w p v x → OwnC G' w p v x := by
         rintro p v x G G' s s' st ⟨c, j, rfl⟩ ho
         exact ho.mono st.le fun g hg => ⟨rfl, fun i => st.own g c j hg i, by rw [st.ω]; exact hg⟩
       obtain ⟨G2, b1, b2, b3, b4, b5⟩ := ih (k := k + 1) a1 (fun j hj => by
         have := hX (j + 1) (by simpa using hj)
         rw [show k + 1 + j = k + (j + 1) by omega]
         exact own1 a2 ⟨_, _, rfl⟩ this) h2
       refine ⟨G2, b1, a2.trans b2, by simp [b3], by simp [a4, b4], fun j hj => ?_⟩
       cases j with
       | zero => exact own1 b2 ⟨_, _, rfl⟩ a3
       | succ j =>
         have := b5 j (by simpa using hj)
         rw [show k + 1 + j = k + (j + 1) by omega] at this
         exact this
     · cases hv
   · cases hv
theorem resW_ok {s s1 : St} {G : Gh} {v v' : V} {x : Value} (h : Rel G s a w) (hX : OwnS G w Pl.rs v x) (hv : resW s v = some (v', s1)) : ∃ G', Rel G' s1 a w ∧ Still G s w G' s1 ∧ OwnS G' w Pl.rs v' x ∧ v'.flat.all V.outC = true := by
 unfold resW at hv
 split at hv
 · rename_i l
   obtain ⟨⟨l', s2⟩, hr, he⟩ := Option.map_eq_some_iff.1 hv
   obtain ⟨rfl, rfl⟩ := Prod.mk.inj he
   obtain ⟨cs, rfl, hl, hc⟩ := (hX : ∃ cs, x = .agg cs ∧ l.length = cs.size ∧ ∀ j, j < l.length → OwnC G w (.rs 0 j) (l.getD j .undef) (cs.getD j undef))
   obtain ⟨G', b1, b2, b3, b4, b5⟩ := resCs_ok (X := fun j => cs.getD j undef) (k := 0) h (fun j hj => by rw [Nat.zero_add]; exact hc j hj) hr
   have b3' : l'.length = l.length := b3
   refine ⟨G', b1, b2, ⟨cs, rfl, b3'.trans hl, fun j hj => ?_⟩, b4⟩
   have hj' : j < l.length := by rw [← b3']; exact hj
   have := b5 j hj'
   rw [Nat.zero_add] at this
   exact this
 · rename_i hna
   have ht : ∀ l, v ≠ .tup l := by
     rintro l rfl
     simp [resC, V.outC, V.viewC, pureC] at hv
   rw [ownS_C (fun l e => hna l e) ht] at hX
   obtain ⟨G', b1, b2, b3, b4⟩ := resC_ok h hX hv
   have na' : (∀ l, v' ≠ .agg l) ∧ ∀ l, v' ≠ .tup l := by
     constructor <;> (rintro l rfl; simp [V.outC, V.viewC, pureC] at b4)
   refine ⟨G', b1, b2, ?_, ?_⟩
   · rw [ownS_C na'.1 na'.2]; exact b3
   · have : v'.flat = [v'] := by cases v' <;> first | rfl | exact absurd rfl (na'.1 _)
     rw [this]; simp [b4]
def thawF (lv u : Nat) : Pl → Pl
 | .ob l t => if l = lv ∧ t = u then .rs 0 0 else .ob l t
 | .cl l t j => if l = lv ∧ t = u then .rs 0 0 else .cl l t j
 | p => p
theorem nw_done {u t : Nat} {cs : List V} (h : Rel G s a w) (hs : s.t t = .ptr s.lv u 0) (hb : s.b u = some (.box cs)) (hp : (cs.map V.viewC).all pureC = true) : ∃ G', Done s.lv G w s.o (.nw (cs.map V.viewC)) (a.tmps.getD t Go.undef) w G' := by
 obtain ⟨g, hg, hω, cs', cty, hbk, hlen, hS, hC⟩ := h.obj s.lv u _ (by rw [ob_b]; exact hb)
 have hT : Tr G.S G.β (.ptr s.lv u 0) (a.tmps.getD t Go.undef) := by
   have := h.slot t
   rw [hs] at this
   exact this
 obtain ⟨g', hg', hx⟩ := hT.ptr_inv
 obtain rfl : g' = g := by rw [hg] at hg'; exact (Option.some.inj hg').symm
 rw [hx]
 have hpm : ∀ v ∈ cs.map V.viewC, pureC v = true := fun v hv => List.all_eq_true.1 hp v hv
 refine ⟨G.ren (thawF s.lv u), ⟨fun β => ⟨g', cs', cty, rfl, ?_, hbk, by rw [List.length_map]; exact hlen, hS, hpm, fun j hj => ?_⟩, ren_fr fun p => ?_, rfl, fun l t' ob ho => ?_, fun l t' g2 hl hg2 => ?_, h.imm, ren_lim h.lim⟩⟩
 · show (G.ren (thawF s.lv u)).ω g' = _
   rw [ren_ω hω]
   exact congrArg some (if_pos ⟨rfl, rfl⟩)
 · rw [List.length_map] at hj
   have h1 := (hC j hj).view
   rw [getD_viewC]
   have h2 : (cs.getD j .undef).viewC ∈ cs.map V.viewC := by
     rw [List.getD_eq_getElem?_getD, List.getElem?_eq_getElem hj]
     exact List.mem_map_of_mem (List.getElem_mem hj)
   exact h1.pure β (pureC_flat (hpm _ h2))
 · cases p with
   | ob l t' =>
     by_cases e : l = s.lv ∧ t' = u
     · exact .inr trivial
     · exact .inl (if_neg e)
   | cl l t' j =>
     by_cases e : l = s.lv ∧ t' = u
     · exact .inr trivial
     · exact .inl (if_neg e)
   | _ => exact .inl rfl
 · have hl : l < s.lv := obIn_lt _ ho
   obtain ⟨g2, k1, k2, k3⟩ := h.obj l t' ob (by rw [ob_outer hl]; exact ho)
   have hne : ∀ (t : Nat), ¬ (l = s.lv ∧ t = u) := fun t e => by have := e.1; omega
   exact ⟨g2, k1, by rw [ren_ω k2]; exact congrArg some (if_neg (hne _)), k3.ren _ fun j => if_neg (hne _)⟩
 · obtain ⟨ob, ho⟩ := h.dom l t' g2 hg2
   rw [ob_outer hl] at ho
   exact ⟨ob, ho⟩
theorem resV_ok {r : ResultVar} {v : V} {s1 : St} (h : Rel G s a w) (hv : resV P s r = some (v, s1)) : ∃ x G', (resR P a r).run P w = .ok x w ∧ Done s.lv G w s1.o v x w G' := by
 unfold resV at hv
 split at hv
 · rename_i t
   split at hv
   · rename_i lv u off hs
     split at hv
     · rename_i hc
       obtain ⟨rfl, rfl⟩ := hc
       split at hv
       · rename_i cs hb
         split at hv
         · rename_i hp
           obtain ⟨rfl, rfl⟩ := Prod.mk.inj (Option.some.inj hv)
           obtain ⟨G', hd⟩ := nw_done h hs hb hp
           exact ⟨_, G', rfl, hd⟩
         · cases hv
       · cases hv
     · cases hv
   obtain ⟨G1, h1, h2, h3, _⟩ := h.take t
   have hb : resW (s.put t (s.t t).view) (s.t t) = some (v, s1.put t (s.t t).view) ∨ True := .inr trivial
   have fz : ∀ (v : V) (u : V) {s : St}, (s.put t u).frz v = (s.frz v).put t u := by
     intro v u s
     unfold St.frz
     have eo : ∀ l n, (s.put t u).ob l n = s.ob l n := fun _ _ => rfl
     split
     · simp only [eo]
       split
       · rename_i lv _ _ _ _ _ _
         unfold St.setOb
         have e1 : (s.put t u).o = s.o := rfl
         rw [e1]
         by_cases hc : lv = s.o.length
         · rw [if_pos hc, if_pos hc]; rfl
         · rw [if_neg hc, if_neg hc]; rfl
       · rfl
     · rfl
   have tre : ∀ (v u : V) {s : St}, tree (s.put t u) v = tree s v := by intro v u s; cases v <;> rfl
   have rc : ∀ {v u v' : V} {s s1 : St}, resC s v = some (v', s1) → resC (s.put t u) v = some (v', s1.put t u) := by
     intro v u v' s s1 hv
     unfold resC at hv ⊢
     split at hv
     · rw [fz, tre]
       obtain ⟨y, hy, he⟩ := Option.map_eq_some_iff.1 hv
       obtain ⟨rfl, rfl⟩ := Prod.mk.inj he
       rw [hy]; rfl
     · split at hv
       · rename_i hp
         obtain ⟨rfl, rfl⟩ := Prod.mk.inj (Option.some.inj hv)
         rw [if_pos hp]
       · cases hv
   have rcs : ∀ {l : List V} {u : V} {l' : List V} {s s1 : St}, resCs s l = some (l', s1) → resCs (s.put t u) l = some (l', s1.put t u) := by
     intro l
     induction l with
     | nil => intro u l' s s1 hv; obtain ⟨rfl, rfl⟩ := Prod.mk.inj (Option.some.inj hv); rfl
     | cons c l ih =>
       intro u l' s s1 hv
       unfold resCs at hv ⊢
       split at hv
       · rename_i c' s2 e1
         split at hv
         · rename_i l2 s3 e2
           obtain ⟨rfl, rfl⟩ := Prod.mk.inj (Option.some.inj hv)
           rw [rc e1]
           dsimp only
           rw [ih e2]
         · cases hv
       · cases hv
   have rw' : resW (s.put t (s.t t).view) (s.t t) = some (v, s1.put t (s.t t).view) := by
     generalize (s.t t).view = u
     unfold resW at hv ⊢
     split at hv
     · obtain ⟨⟨l', s2⟩, hr, he⟩ := Option.map_eq_some_iff.1 hv
       obtain ⟨rfl, rfl⟩ := Prod.mk.inj he
       dsimp only
       rw [rcs hr]; rfl
     · exact rc hv
   obtain ⟨G2, k1, k2, k3, k4⟩ := resW_ok h1 h2 rw'
   exact ⟨_, G2, rfl, Done.of_rel (s1 := s1.put t (s.t t).view) k1 k2.lv (h3.trans k2.fr) (k3.pureβ k4)⟩
 · rename_i c t
   split at hv
   · rename_i u s2 hl
     obtain ⟨x, G', h1, h2, h3, h4⟩ := op_loadS (d := none) (ty := 0) (pos := "") (af := #[]) (gd := none) h hl
     obtain ⟨G2, k1, k2, k3, k4⟩ := resW_ok h2 h3 hv
     have hlv := vLoad_lv hl
     exact ⟨x, G2, load_res h1, Done.of_rel k1 (k2.lv.trans hlv) (h4.trans (by have := k2.fr; rw [hlv] at this; exact this)) (k3.pureβ k4)⟩
   · cases hv
theorem resT_ok {r : ResultVar} {v : V} {s1 : St} (h : Rel G s a w) (hv : resT P s r = some (v, s1)) : ∃ x G', (resR P a r).run P w = .ok x w ∧ Rel G' s1 a w ∧ s1.lv = s.lv ∧ Fr s.lv G w G' w ∧ Tr G'.S G'.β v x ∧ v.flat.all pureC = true := by
 unfold resT at hv
 split at hv
 · rename_i t
   obtain ⟨G', h1, h2, h3, h4, _, _⟩ := h.tree hv
   exact ⟨_, G', rfl, h1, h2.lv, h2.fr, h3, h4⟩
 · rename_i c t
   split at hv
   · rename_i u s2 hl
     split at hv
     · rename_i hp
       obtain ⟨rfl, rfl⟩ := Prod.mk.inj (Option.some.inj hv)
       obtain ⟨x, G', h1, h2, h3, h4⟩ := op_loadS (d := none) (ty := 0) (pos := "") (af := #[]) (gd := none) h hl
       exact ⟨x, G', load_res h1, h2, vLoad_lv hl, h4, h3.view, hp⟩
     · cases hv
   · cases hv
theorem resTs_ok : ∀ (rs : List ResultVar) {G : Gh} {s s1 : St} {vs : List V}, Rel G s a w → resTs P s rs = some (vs, s1) → ∃ xs G', (rs.mapM (resR P a)).run P w = .ok xs w ∧ Rel G' s1 a w ∧ s1.lv = s.lv ∧ Fr s.lv G w G' w ∧ vs.length = xs.length ∧
   vs.length = rs.length ∧ ∀ i, i < vs.length → Tr G'.S G'.β (vs.getD i .undef) (xs.getD i Go.undef) ∧ (vs.getD i .undef).flat.all pureC = true := by
 intro rs
 induction rs with
 | nil =>
   intro G s s1 vs h hv
   obtain ⟨rfl, rfl⟩ := Prod.mk.inj (Option.some.inj hv)
   exact ⟨[], G, rfl, h, rfl, Fr.refl _ _ _, rfl, rfl, fun i hi => absurd hi (Nat.not_lt_zero _)⟩
 | cons r rs ih =>
   intro G s s1 vs h hv
   unfold resTs at hv
   split at hv
   · rename_i v s2 h1
     split at hv
     · rename_i vs2 s3 h2
       obtain ⟨rfl, rfl⟩ := Prod.mk.inj (Option.some.inj hv)
       obtain ⟨x, G1, k1, k2, k3, k4, k5, k6⟩ := resT_ok h h1
       obtain ⟨xs, G2, m1, m2, m3, m4, m5, m6, m7⟩ := ih k2 h2
       refine ⟨x :: xs, G2, ?_, m2, m3.trans k3, k4.trans (k3 ▸ m4), by simp [m5], by simp [m6], fun i hi => ?_⟩
       · simp only [List.mapM_cons, Sem.run_bind, k1, m1, Result.andThen_ok, Sem.run_pure]
       · cases i with
         | zero => exact ⟨(k5.mono m4.imm fun l t g hg => hg).pure _ k6, k6⟩
         | succ i => exact m7 i (by simpa using hi)
     · cases hv
   · cases hv
def upI (k : Nat) : Pl → Pl
 | .rs 0 j => .rs (k + 1) j
 | p => p
def downF : Pl → Pl
 | .rs (c + 1) j => .rs c j
 | p => p
theorem resUs_key : ∀ (rs : List ResultVar) {G : Gh} {s s1 : St} {vs : List V} {k : Nat}, Rel G s a w → resUs s rs = some (vs, s1) → ∃ xs G', (rs.mapM (resR P a)).run P w = .ok xs w ∧ Rel G' s1 a w ∧ s1.lv = s.lv ∧ Fr s.lv G w G' w ∧ vs.length = xs.length ∧
   vs.length = rs.length ∧ Le G G' ∧ (∀ c j g, c < k → G.ω g = some (.rs (c + 1) j) → G'.ω g = some (.rs (c + 1) j) ∧ ∀ i, G'.S g i = G.S g i) ∧ ∀ i, i < vs.length → OwnV G' w (Pl.rs (k + i + 1)) (vs.getD i .undef) (xs.getD i Go.undef) ∧ (vs.getD i .undef).flat.all V.outC = true := by
 intro rs
 induction rs with
 | nil =>
   intro G s s1 vs k h hv
   obtain ⟨rfl, rfl⟩ := Prod.mk.inj (Option.some.inj hv)
   exact ⟨[], G, rfl, h, rfl, Fr.refl _ _ _, rfl, rfl, Le.refl _, fun _ _ _ _ e => ⟨e, fun _ => rfl⟩, fun i hi => absurd hi (Nat.not_lt_zero _)⟩
 | cons r rs ih =>
   intro G s s1 vs k h hv
   cases r with
   | cell c t => cases hv
   | tmp t =>
     unfold resUs at hv
     split at hv
     · rename_i v s2 h1
       split at hv
       · rename_i vs2 s3 h2
         obtain ⟨rfl, rfl⟩ := Prod.mk.inj (Option.some.inj hv)
         obtain ⟨G1, t1, t2, t3, t4, t5, t6⟩ := h.take t
         obtain ⟨G2, k1, k2, k3, k4⟩ := resW_ok t1 t2 h1
         obtain ⟨r1, r2⟩ := k1.ren_rs0 (upI k) (fun p hp => by
           unfold upI
           split
           · exact absurd rfl (hp _ _)
           · rfl)
         have hlv : s2.lv = s.lv := k2.lv
         have hnt : ∀ l, v ≠ .tup l := by
           rintro l rfl
           simp [V.flat, V.outC, V.viewC, pureC] at k4
         have k5 : OwnV (G2.ren (upI k)) w (Pl.rs (k + 1)) v (a.tmps.getD t Go.undef) := (k3.toV hnt).ren (upI k) (fun j => rfl)
         obtain ⟨xs, G3, m1, m2, m3, m4, m5, m6, m7, m8, m9⟩ := ih (k := k + 1) r1 h2
         have le1 : Le G (G2.ren (upI k)) := ⟨fun g j c e => k2.le.S _ _ _ (by rw [t5]; exact e), fun l t g e => k2.le.β _ _ _ (by rw [t6]; exact e)⟩
         refine ⟨a.tmps.getD t Go.undef :: xs, G3, ?_, m2, m3.trans hlv, ?_, by simp [m5], by simp [m6], ⟨fun g j c e => m7.S _ _ _ (le1.S _ _ _ e), fun l t g e => m7.β _ _ _ (le1.β _ _ _ e)⟩, fun c j g hc e => ?_, fun i hi => ?_⟩
         · have e1 : (resR P a (.tmp t)).run P w = .ok (a.tmps.getD t Go.undef) w := rfl
           simp only [List.mapM_cons, Sem.run_bind, e1, m1, Result.andThen_ok, Sem.run_pure]
         · have f1 := k2.fr
           have f2 := r2
           rw [hlv] at f2 m4
           exact ((t3.trans f1).trans f2).trans m4
         · have e1 := t4 _ _ _ e
           have e2 : G2.ω g = some (.rs (c + 1) j) := by rw [k2.ω]; exact e1
           obtain ⟨e3, e4⟩ := m8 c j g (by omega) (by rw [ren_ω e2]; rfl)
           exact ⟨e3, fun i => (e4 i).trans ((k2.own g _ _ e1 i).trans (by rw [t5]))⟩
         · cases i with
           | zero =>
             refine ⟨?_, k4⟩
             exact k5.mono m7 fun j g hg => by
               obtain ⟨e3, e4⟩ := m8 k j g (by omega) hg
               exact ⟨rfl, e4, e3⟩
           | succ i =>
             have := m9 i (by simpa using hi)
             rw [show k + 1 + i + 1 = k + (i + 1) + 1 by omega] at this
             exact this
       · cases hv
     · cases hv
theorem resUs_ok (rs : List ResultVar) {G : Gh} {s s1 : St} {vs : List V} (h : Rel G s a w) (hv : resHs P s rs = some (vs, s1)) : ∃ xs G', (rs.mapM (resR P a)).run P w = .ok xs w ∧ Rel G' s1 a w ∧ s1.lv = s.lv ∧ Fr s.lv G w G' w ∧ vs.length = xs.length ∧
   vs.length = rs.length ∧ ∀ i, i < vs.length → OwnV G' w (Pl.rs (0 + i + 1)) (vs.getD i .undef) (xs.getD i Go.undef) ∧ (vs.getD i .undef).flat.all V.outC = true := by
 have plain : resUs s rs = some (vs, s1) → ∃ xs G', (rs.mapM (resR P a)).run P w = .ok xs w ∧ Rel G' s1 a w ∧ s1.lv = s.lv ∧ Fr s.lv G w G' w ∧ vs.length = xs.length ∧
     vs.length = rs.length ∧ ∀ i, i < vs.length → OwnV G' w (Pl.rs (0 + i + 1)) (vs.getD i .undef) (xs.getD i Go.undef) ∧ (vs.getD i .undef).flat.all V.outC = true := by
   intro hv
   obtain ⟨xs, G', h1, h2, h3, h4, h5, h6, _, _, h8⟩ := resUs_key rs (k := 0) h hv
   exact ⟨xs, G', h1, h2, h3, h4, h5, h6, h8⟩
 unfold resHs at hv
 split at hv
 rotate_left
 · exact plain hv
 rename_i c t rs
 split at hv
 · rename_i u s2 hl
   split at hv
   · rename_i v s3 hw
     split at hv
     · rename_i vs2 s4 h2
       obtain ⟨rfl, rfl⟩ := Prod.mk.inj (Option.some.inj hv)
       obtain ⟨x, G1, l1, l2, l3, l4⟩ := op_loadS (d := none) (ty := 0) (pos := "") (af := #[]) (gd := none) h hl
       obtain ⟨G2, k1, k2, k3, k4⟩ := resW_ok l2 l3 hw
       obtain ⟨r1, r2⟩ := k1.ren_rs0 (upI 0) (fun p hp => by
         unfold upI
         split
         · exact absurd rfl (hp _ _)
         · rfl)
       have hlv2 := vLoad_lv hl
       have hlv : s3.lv = s.lv := k2.lv.trans hlv2
       have hnt : ∀ l, v ≠ .tup l := by
         rintro l rfl
         simp [V.flat, V.outC, V.viewC, pureC] at k4
       have k5 : OwnV (G2.ren (upI 0)) w (Pl.rs (0 + 1)) v x := (k3.toV hnt).ren (upI 0) (fun j => rfl)
       obtain ⟨xs, G3, m1, m2, m3, m4, m5, m6, m7, m8, m9⟩ := resUs_key (P := P) rs (k := 1) r1 h2
       refine ⟨x :: xs, G3, ?_, m2, m3.trans hlv, ?_, by simp [m5], by simp [m6], fun i hi => ?_⟩
       · have e1 := load_res l1
         simp only [List.mapM_cons, Sem.run_bind, e1, m1, Result.andThen_ok, Sem.run_pure]
       · have f1 := k2.fr
         have f2 := r2
         rw [hlv2] at f1
         rw [hlv] at f2 m4
         exact ((l4.trans f1).trans f2).trans m4
       · cases i with
         | zero =>
           refine ⟨?_, k4⟩
           exact k5.mono m7 fun j g hg => by
             obtain ⟨e3, e4⟩ := m8 0 j g (by omega) hg
             exact ⟨rfl, e4, e3⟩
         | succ i =>
           have := m9 i (by simpa using hi)
           rw [show 1 + i + 1 = 0 + (i + 1) + 1 by omega] at this
           exact this
     · cases hv
   · cases hv
 · cases hv
theorem results_many {fn : Func} {xs : List Value} (h : (fn.results.toList.mapM (resR P a)).run P w = .ok xs w) (hl : xs.length = fn.results.toList.length) (hn : xs.length ≠ 1) : (results fn a.tmps).run P w = .ok (.tuple xs.toArray) w := by
 unfold results
 have e : (fn.results.mapM fun r => (match r with | .tmp t => pure (a.tmps.getD t Go.undef) | .cell c t => do loadVar t (← asAddr (a.tmps.getD c Go.undef)) : Sem Value)) = List.toArray <$> fn.results.toList.mapM (resR P a) := by
   rw [Array.mapM_eq_mapM_toList]
   rfl
 simp only [Sem.run_bind]
 have : (fn.results.mapM fun r => (match r with | .tmp t => pure (a.tmps.getD t Go.undef) | .cell c t => do loadVar t (← asAddr (a.tmps.getD c Go.undef)) : Sem Value)).run P w = .ok xs.toArray w := by
   rw [e, map_eq_pure_bind]
   simp only [Sem.run_bind, h, Result.andThen_ok, Sem.run_pure]
 refine (congrArg (fun r : Result (Array Value) => r.andThen fun a w' => Sem.run P (pure (if h : a.size = 1 then a[0] else Value.tuple a)) w') this).trans ?_
 simp [hn]
theorem end_ok {fn : Func} {v : V} {s1 : St} (h : Rel G s a w) (hr : fn.results = s.r) (hv : endV P s = some (v, s1)) : ∃ x G', (results fn a.tmps).run P w = .ok x w ∧ Done s.lv G w s1.o v x w G' := by
 unfold endV at hv
 split at hv
 · rename_i r hrl
   obtain ⟨x, G', h1, h2⟩ := resV_ok h hv
   exact ⟨x, G', results_one (by rw [hr]; exact hrl) h1, h2⟩
 · rename_i rs hn
   obtain ⟨y, hy, he⟩ := Option.map_eq_some_iff.1 hv
   obtain ⟨rfl, rfl⟩ := Prod.mk.inj he
   unfold resQs at hy
   split at hy
   rotate_left
   · obtain ⟨xs, G', h1, h2, h3, h4, h5, h6, h7⟩ := resUs_ok (a := a) (w := w) (P := P) s.r.toList h hy
     have hl : xs.length = fn.results.toList.length := by rw [hr, ← h6, h5]
     have hne : xs.length ≠ 1 := by
       intro e
       rw [hl, hr] at e
       obtain ⟨r, hr⟩ := List.length_eq_one_iff.1 e
       exact hn r hr
     obtain ⟨r1, r2⟩ := h2.ren_rs0 downF (fun p hp => by
       unfold downF
       split
       · exact absurd rfl (hp _ _)
       · rfl)
     rw [h3] at r2
     refine ⟨_, _, results_many (by rw [hr]; exact h1) hl hne, Done.of_rel r1 h3 (h4.trans r2) fun β => ⟨xs.toArray, rfl, by simpa using h5, fun i hi => ?_⟩⟩
     have e : xs.toArray.getD i Go.undef = xs.getD i Go.undef := by simp [Array.getD_eq_getD_getElem?, List.getD_eq_getElem?_getD]
     rw [e]
     obtain ⟨k1, k2⟩ := h7 i hi
     have k3 := k1.ren downF (p' := Pl.rs i) (fun j => by rw [Nat.zero_add]; rfl)
     have hnt : ∀ l, y.1.getD i .undef ≠ .tup l := by
       intro l e
       rw [e] at k2
       simp [V.flat, V.outC, V.viewC, pureC] at k2
     have k4 : OwnS (G'.ren downF) w (fun _ => Pl.rs i) (y.1.getD i .undef) (xs.getD i Go.undef) := by
       unfold OwnS
       split
       · rename_i e; exact absurd e (hnt _)
       · exact k3
     have k5 := k4.pureβ k2 β
     unfold OwnS at k5
     split at k5
     · rename_i e; exact absurd e (hnt _)
     · exact k5
   rename_i y' hy'
   obtain rfl := Option.some.inj hy
   obtain ⟨xs, G', h1, h2, h3, h4, h5, h6, h7⟩ := resTs_ok (a := a) (w := w) s.r.toList h hy'
   have hl : xs.length = fn.results.toList.length := by rw [hr, ← h6, h5]
   have hne : xs.length ≠ 1 := by
     intro e
     rw [hl, hr] at e
     obtain ⟨r, hr⟩ := List.length_eq_one_iff.1 e
     exact hn r hr
   refine ⟨_, G', results_many (by rw [hr]; exact h1) hl hne, Done.of_rel h2 h3 h4 fun β => ⟨xs.toArray, rfl, by simpa using h5, fun i hi => ?_⟩⟩
   have := (h7 i hi).1.pure β (h7 i hi).2
   have e : xs.toArray.getD i Go.undef = xs.getD i Go.undef := by simp [Array.getD_eq_getD_getElem?, List.getD_eq_getElem?_getD]
   rw [e]
   exact OwnV.of_tr' this
end Go.Ev
