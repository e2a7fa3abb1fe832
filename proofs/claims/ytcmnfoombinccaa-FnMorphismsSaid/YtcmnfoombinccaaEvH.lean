/- Lists owned deep: made, built out of owned parts, put to one another's end. Lists of lists as variables of their cells; loads that make an object of what they read. The steps put together. -/
import Derived.Test.YtcmnfoombinccaaEvF
import Derived.Test.YtcmnfoombinccaaEvG
set_option linter.unusedVariables false
set_option linter.unusedSimpArgs false
namespace Go.Ev
open Go
set_option linter.unusedVariables false
set_option linter.unusedSimpArgs false
variable {P : Program} {G : Gh} {s : St} {a : Act} {w : World} {o : Oper}
variable {d : Option Nat} {ty : TypeId} {pos : String} {af : Array Edge} {gd : Option (Nat × Bool)}

theorem DTs.one {S β} {bs : List Nat} {l : List V} {xs : List Value} (h : DTs S β w bs l xs) : ∀ u ∈ xs, u.oneCell' = true := by
  induction h with
  | nil => intro u hu; cases hu
  | leaf hp h k ih =>
    intro u hu
    rcases List.mem_cons.1 hu with rfl | hu
    · exact (cells_one h (by rintro rfl; cases hp) (by rintro l rfl; cases hp)).2
    · exact ih u hu
  | emp k ih =>
    intro u hu
    rcases List.mem_cons.1 hu with rfl | hu
    · rfl
    · exact ih u hu
  | blk hg hc hm hs hS hk k ih1 ih2 =>
    intro u hu
    rcases List.mem_cons.1 hu with rfl | hu
    · rfl
    · exact ih2 u hu
def upF : Pl → Pl
  | .rs 0 0 => .rs 1 0
  | p => p
theorem op_appendO {x y : Operand} {t t' : TypeId} {sz : Nat} {m : List V} {v : V} (h : Rel G s a w) (hy : s.all P t' y = .uq sz m) (hv : appendO P t t' ((s.drop y).all P t x) sz m = some v) :
    OpOk P ⟨d, .call { callee := .builtin .append, args := #[x, y], argTypes := #[t, t'] }, ty, pos, af, gd⟩ G s a w v ((s.drop y).drop x) := by
  obtain ⟨G0, h0, y1, y2, y3, y4, y5⟩ := h.all P t' y
  rw [hy] at y1
  obtain ⟨r1, r2⟩ := h0.ren_rs0 upF (fun p hp => by
    unfold upF
    split
    · exact absurd rfl (hp _ _)
    · rfl)
  have y1' : OwnU (G0.ren upF) w (.rs 1 0) sz m (a.eval y) := OwnC.ren (v := .uq sz m) (p' := .rs 1 0) y1 upF rfl
  obtain ⟨G1, h1, x1, x2, x3, x4, x5⟩ := r1.all P t x
  have y1'' : OwnU G1 w (.rs 1 0) sz m (a.eval y) := OwnC.mono (v := .uq sz m) y1' ⟨fun g j c e => by rw [x4]; exact e, fun l t g e => by rw [x5]; exact e⟩ fun g hg => ⟨rfl, fun j => by rw [x4], x3 _ _ _ hg⟩
  have hlv : (s.drop y).lv = s.lv := drop_lv y
  have hlv2 : ((s.drop y).drop x).lv = s.lv := (drop_lv x).trans hlv
  obtain ⟨A, cap, hYe, news, bsm, c2, c3, c5, cD, cz, cn, cω, _⟩ := y1''.cells P
  have core : ∀ {l : List V}, growB P t = true → sz = elemSz P t → isSl P t' = true → (l.length + m.length) * P.bytesOf (elemOf P t) ≤ 140737488355328 → OwnU G1 w (.rs 0 0) sz l (a.eval x) →
      OpOk P ⟨d, .call { callee := .builtin .append, args := #[x, y], argTypes := #[t, t'] }, ty, pos, af, gd⟩ G s a w (.uq sz (l ++ m)) ((s.drop y).drop x) := by
    intro l hgr hse hsl hbd hX
    obtain ⟨e, he, hel⟩ := isSl_spec (by simp only [growB, Bool.and_eq_true] at hgr; exact hgr.1.1.1)
    rw [hel] at hbd
    obtain ⟨e', he', _⟩ := isSl_spec hsl
    obtain ⟨x', w', G', e1, e2, e3, e4⟩ := growU_core (ty := ty) (q := .rs 1 0) h1 hgr hse he he' (fun k e => by cases e) hX (by rw [hYe]; rfl) c2 c3 cD cz cn cω ⟨0, 0, rfl⟩ c5 cD.one hbd
    rw [hlv2] at e4
    rw [hlv] at x2 r2
    refine ⟨x', w', G', run_builtin ?_, e2, e3, ((y2.trans r2).trans x2).trans e4⟩
    simp only [builtin, List.map_toArray, List.map_cons, List.map_nil, Sem.run_bind, e1, Result.andThen_ok, Sem.run_pure]
  unfold appendO at hv
  split at hv
  · rename_i sz1 l hx
    split at hv
    · rename_i hc
      obtain ⟨k1, k2, k3, rfl, k5⟩ := hc
      obtain rfl := Option.some.inj hv
      rw [hx] at x1
      exact core k1 k2 k3 k5 x1
    · cases hv
  · rename_i sz1 hx
    split at hv
    · rename_i hc
      obtain ⟨k1, k2, k3, rfl, k5⟩ := hc
      obtain rfl := Option.some.inj hv
      rw [hx] at x1
      exact core (l := []) k1 k2 k3 (by simpa using k5) (OwnU.of_nil x1)
    · cases hv
  · cases hv
theorem op_makeOwn {t e : TypeId} {dd : Nat} {x y : Operand} {z : List V} {kl kc : IntKind} {n m : Int} (h : Rel G s a w) (hu : P.underlying t = some (.slice e)) (hx : s.see P 0 x = .int kl n) (hy : s.see P 0 y = .int kc m) (hz : zero P e = some z) (hlen : z.length = szOf P e) (hn : szOf P e ≠ 0) (hfl : (dflt P t).flat.length = szOf P e)
    (hb0 : P.bytesOf e ≠ 0) (h0 : 0 ≤ n) (hnm : n ≤ m) (hb : m * P.bytesOf e ≤ 140737488355328) (hd : s.b dd = none) (hnm' : n = m) :
    OpOk P ⟨d, .makeSlice t x y, ty, pos, af, gd⟩ G s a w (.oref s.lv dd n.toNat) { s with b := upd s.b dd (some (.aru (szOf P e) (List.replicate n.toNat (dflt P t)))) } := by
  obtain ⟨i, zv, h1, h2, h3, h4, h5⟩ := made_laid (G := G) hu hz hlen hn hfl n.toNat m.toNat (by omega)
  subst hnm'
  have h4' : Laid G (szOf P e) (List.replicate n.toNat (dflt P t)) (madeCells zv.cells (n.toNat * szOf P e)).toList.toArray := by simpa using h4
  have hD := h4'.dts (w := w) (by rw [Array.length_toList, h5, List.length_replicate])
  obtain ⟨k1, k2, k3⟩ := h.allocOb hd (.cells (madeCells zv.cells (n.toNat * szOf P e)) e) (.aru (szOf P e) (List.replicate n.toNat (dflt P t))) (fun w' hw' hle hs hS => ⟨_, e, [], by rw [hw']; exact heap_alloc_new _ _, by rw [h5, List.length_replicate], fun x hx => (h4.2.1 x hx).1, hS, List.nodup_nil, (fun b hb => by cases hb), hD.mono (fun v x _ e => hle.tr e) (fun b hb => by cases hb)⟩)
  have e1 := h.see P 0 x
  have e2 := h.see P 0 y
  rw [hx] at e1
  rw [hy] at e2
  refine ⟨.slice (some ⟨w.heap.size, 0, none⟩) n.toNat n.toNat, _, _, ?_, k1, OwnS.of_tr' (Tr.oref _ _ _ _ k3), k2⟩
  simp only [execOp]
  refine run_val ?_
  rw [e1.int_inv, e2.int_inv, make_run hu h1 h2 kl kc h0 hnm hb0 hb, h3]
theorem handAll_ok {e : TypeId} (hz : szOf P e ≠ 0) : ∀ {xs : List Operand} {G : Gh} {s s1 : St} {vs : List V} {k : Nat}, Rel G s a w → handAll P e s xs = some (vs, s1) → vs.all (fun v => v.flat.length == szOf P e && v.flat.all cellU) = true →
    ∃ G1, Rel G1 s1 a w ∧ Fr s.lv G w G1 w ∧ s1.lv = s.lv ∧ G1.S = G.S ∧ G1.β = G.β ∧ (∀ g j, j < k → G.ω g = some (.rs 1 j) → G1.ω g = some (.rs 1 j)) ∧ (∀ x ∈ xs.map a.eval, x.cells.size = szOf P e) ∧ vs.length = xs.length ∧
      ((xs.map a.eval).flatMap fun v => v.cells.toList).length = (vs.map V.flat).flatten.length ∧
      ∀ j, j < (vs.map V.flat).flatten.length → OwnC G1 w (.rs 1 (k + j)) ((vs.map V.flat).flatten.getD j .undef) (((xs.map a.eval).flatMap fun v => v.cells.toList).getD j Go.undef) := by
  intro xs
  induction xs with
  | nil =>
    intro G s s1 vs k h hv _
    obtain ⟨rfl, rfl⟩ := Prod.mk.inj (Option.some.inj hv)
    exact ⟨G, h, Fr.refl _ _ _, rfl, rfl, rfl, fun _ _ _ e => e, (fun x hx => by cases hx), rfl, rfl, fun j hj => absurd hj (Nat.not_lt_zero _)⟩
  | cons x xs ih =>
    intro G s s1 vs k h hv hf
    have hvv : s.all P e x ≠ .undef ∧ (∀ l, s.all P e x ≠ .tup l) ∧ ∃ vs', handAll P e (s.drop x) xs = some (vs', s1) ∧ vs = (s.all P e x).hand :: vs' := by
      unfold handAll at hv
      split at hv
      · cases hv
      · cases hv
      · rename_i h7 h8
        refine ⟨fun e => h8 e, fun l e => h7 l e, ?_⟩
        split at hv
        · rename_i vs' s2 h9
          obtain ⟨rfl, rfl⟩ := Prod.mk.inj (Option.some.inj hv)
          exact ⟨vs', h9, rfl⟩
        · cases hv
    obtain ⟨hu, ht, vs', hr, rfl⟩ := hvv
    rw [List.all_cons, Bool.and_eq_true, Bool.and_eq_true, beq_iff_eq] at hf
    obtain ⟨⟨f1, f2⟩, f3⟩ := hf
    have hhf := hand_flat f2
    have hfl' : (s.all P e x).flat.length = szOf P e := by rw [hhf, List.length_map] at f1; exact f1
    obtain ⟨G1, h1, h2, h3, h4, h5, h6⟩ := h.all P e x
    obtain ⟨q1, q2⟩ := (h2.toV ht).cells hu ht
    obtain ⟨r1, r2⟩ := h1.ren_rs0 (accF k) (fun p hp => by cases p <;> first | rfl | exact absurd rfl (hp _ _))
    obtain ⟨G2, k1, k2, k3, k4, k5, k6, k7, k8, k9, k10⟩ := ih (k := k + szOf P e) r1 hr f3
    have hsz : (a.eval x).cells.size = szOf P e := by omega
    have hlv : (s.drop x).lv = s.lv := drop_lv x
    rw [hlv] at r2 k2
    refine ⟨G2, k1, (h3.trans r2).trans k2, k3.trans hlv, k4.trans h5, k5.trans h6, fun g j hj hg => k6 g j (by omega) ?_, fun z hz => ?_, by simp [k8], ?_, fun j hj => ?_⟩
    · rw [ren_ω (h4 _ _ _ hg)]; rfl
    · rw [List.map_cons] at hz
      rcases List.mem_cons.1 hz with rfl | hz
      · exact hsz
      · exact k7 z hz
    · rw [List.map_cons, List.flatMap_cons, List.length_append, k9, List.map_cons, List.flatten_cons, List.length_append, Array.length_toList, f1, hsz]
    · rw [List.map_cons, List.flatten_cons, List.length_append, f1] at hj
      rw [List.map_cons, List.flatten_cons, List.map_cons, List.flatMap_cons]
      by_cases hlt : j < szOf P e
      · have e1 : ((s.all P e x).hand.flat ++ (vs'.map V.flat).flatten).getD j .undef = (s.all P e x).hand.flat.getD j .undef := by
          simp only [List.getD_eq_getElem?_getD]
          rw [List.getElem?_append_left (by omega)]
        have e2 : ((a.eval x).cells.toList ++ ((xs.map a.eval).flatMap fun v => v.cells.toList)).getD j Go.undef = (a.eval x).cells.getD j Go.undef := by
          simp only [List.getD_eq_getElem?_getD, Array.getD_eq_getD_getElem?]
          rw [List.getElem?_append_left (by simp; omega)]
          simp
        rw [e1, e2, hhf, getD_handC]
        have h8 := handC_view ((q2 j (by omega)).ren (accF k) (p' := .rs 1 (k + j)) rfl)
        refine h8.mono ⟨fun g i c e => by rw [k4]; exact e, fun l t g e => by rw [k5]; exact e⟩ fun g hg => ⟨rfl, fun i => by rw [k4], k6 g _ (by omega) hg⟩
      · have e1 : ((s.all P e x).hand.flat ++ (vs'.map V.flat).flatten).getD j .undef = (vs'.map V.flat).flatten.getD (j - szOf P e) .undef := by
          simp only [List.getD_eq_getElem?_getD]
          rw [List.getElem?_append_right (by omega), f1]
        have e2 : ((a.eval x).cells.toList ++ ((xs.map a.eval).flatMap fun v => v.cells.toList)).getD j Go.undef = ((xs.map a.eval).flatMap fun v => v.cells.toList).getD (j - szOf P e) Go.undef := by
          simp only [List.getD_eq_getElem?_getD]
          rw [List.getElem?_append_right (by simp; omega)]
          simp [hsz]
        rw [e1, e2, show k + j = k + szOf P e + (j - szOf P e) by omega]
        exact k10 _ (by omega)
def ownF : Pl → Pl
  | .rs 1 _ => .rs 0 0
  | p => p
theorem op_buildOwn {t e : TypeId} {n : Nat} {ps : Array (Nat × Operand)} {vs z : List V} {s1 : St} (h : Rel G s a w) (hu : P.underlying t = some (.slice e)) (hz : szOf P e ≠ 0) (hzero : zero P e = some z) (ho : inOrder 0 ps.toList = true) (hn : ps.size = n) (hsm : n * szOf P e ≤ 16777216)
    (ht : handAll P e s (ps.toList.map (·.2)) = some (vs, s1)) (hf : vs.all (fun v => v.flat.length == szOf P e && v.flat.all cellU) = true) : OpOk P ⟨d, .buildSlice t n ps, ty, pos, af, gd⟩ G s a w (.uq (szOf P e) vs) s1 := by
  obtain ⟨G1, h1, h2, h3, h4, h5, _, h7, h8, h9, h10⟩ := handAll_ok (k := 0) hz h ht hf
  have hxs : (ps.toList.map (·.2)).map a.eval = ps.toList.map fun p => a.eval p.2 := by rw [List.map_map]; rfl
  rw [hxs] at h7 h9 h10
  have hcu : (vs.map V.flat).flatten.all cellU = true := by
    rw [List.all_eq_true]
    intro u hu
    obtain ⟨y, hy, hu⟩ := List.mem_flatten.1 hu
    obtain ⟨v, hv, rfl⟩ := List.mem_map.1 hy
    have := List.all_eq_true.1 hf v hv
    rw [Bool.and_eq_true] at this
    exact List.all_eq_true.1 this.2 u hu
  have hs : ∀ x ∈ vs, x.flat.length = szOf P e := fun x hx => by
    have := List.all_eq_true.1 hf x hx
    rw [Bool.and_eq_true, beq_iff_eq] at this
    exact this.1
  obtain ⟨bs, b1, b2, b3⟩ := DTs.of_own (p := Pl.rs 1) (fun i j e => by injection e) (k := 0) h9.symm hcu h10
  obtain ⟨r1, r2⟩ := h1.ren_rs0 ownF (fun p hp => by
    unfold ownF
    split
    · exact absurd rfl (hp _ _)
    · rfl)
  have hlen : vs.length = n := by rw [h8, List.length_map, Array.length_toList, hn]
  obtain ⟨q1, q2, q3, _⟩ := r1.allocRow 0 (((ps.toList.map fun p => a.eval p.2).flatMap fun v => v.cells.toList).toArray) e (.rs 0 0)
  have hωb : ∀ b ∈ bs, (G1.ren ownF).ω b = some (.rs 0 0) := fun b hb => by
    obtain ⟨j, _, e⟩ := b2 b hb
    rw [ren_ω e]; rfl
  have hne : ∀ b ∈ bs, b ≠ w.heap.size := fun b hb => Nat.ne_of_lt (r1.lim _ _ (hωb b hb))
  rw [h3] at q3 r2
  refine ⟨.slice (some ⟨w.heap.size, 0, none⟩) n n, _, _, ?_, q1, ?_, (h2.trans r2).trans q3⟩
  · simp only [execOp]
    exact run_val (buildSlice_run hu hz hzero ho hn hsm h7 w)
  · rw [← hlen]
    refine OwnU.mk (bs := bs) (List.nodup_cons.2 ⟨fun hb => hne _ hb rfl, b1⟩) (fun b hb => ?_) (heap_alloc_new _ _) ?_ (Nat.le_refl _) hs (fun j => ?_) ?_
    · rcases List.mem_cons.1 hb with rfl | hb
      · show (if w.heap.size = w.heap.size then _ else _) = _
        rw [if_pos rfl]
      · show (if b = w.heap.size then _ else _) = _
        rw [if_neg (hne b hb)]
        exact hωb b hb
    · rw [List.size_toArray, h9, flat_len hs]
    · show (if w.heap.size = w.heap.size then (if j < 0 then _ else _) else _) = _
      rw [if_pos rfl, if_neg (by omega)]
    · have e1 : (((ps.toList.map fun p => a.eval p.2).flatMap fun v => v.cells.toList).toArray.toList.take (vs.length * szOf P e)) = (ps.toList.map fun p => a.eval p.2).flatMap fun v => v.cells.toList := by
        rw [List.toList_toArray, List.take_of_length_le (by rw [h9, flat_len hs]; exact Nat.le_refl _)]
      rw [e1]
      refine b3.mono (fun v x _ e => e.mono q2.S q2.β) fun b hb => ⟨alloc_old _ _ (r1.lim _ _ (hωb b hb)), fun j => ?_⟩
      show (if b = w.heap.size then _ else _) = _
      rw [if_neg (hne b hb)]
      rfl
end Go.Ev
namespace Go.Ev
open Go
set_option linter.unusedVariables false
set_option linter.unusedSimpArgs false
variable {P : Program} {G : Gh} {s : St} {a : Act} {w : World} {o : Oper}
variable {d : Option Nat} {ty : TypeId} {pos : String} {af : Array Edge} {gd : Option (Nat × Bool)}

/-- what a row of cells owns, told cell by cell -/
theorem DTs.parts {S β} {w : World} {bs : List Nat} {l : List V} {xs : List Value} (h : DTs S β w bs l xs) : bs.Nodup → ∃ f : Nat → Nat, ∀ i, i < l.length → ∃ bi, bi.Nodup ∧ (∀ b ∈ bi, b ∈ bs ∧ f b = i) ∧ DTs S β w bi [l.getD i .undef] [xs.getD i undef] := by
  induction h with
  | nil => intro _; exact ⟨fun _ => 0, fun i hi => absurd hi (Nat.not_lt_zero _)⟩
  | leaf hp h k ih =>
    intro hn
    obtain ⟨f, hf⟩ := ih hn
    refine ⟨fun b => f b + 1, fun i hi => ?_⟩
    cases i with
    | zero => exact ⟨[], List.nodup_nil, (fun b hb => by cases hb), .leaf hp h .nil⟩
    | succ i =>
      obtain ⟨bi, h1, h2, h3⟩ := hf i (by simpa using hi)
      exact ⟨bi, h1, fun b hb => ⟨(h2 b hb).1, by show f b + 1 = i + 1; rw [(h2 b hb).2]⟩, h3⟩
  | emp k ih =>
    intro hn
    obtain ⟨f, hf⟩ := ih hn
    refine ⟨fun b => f b + 1, fun i hi => ?_⟩
    cases i with
    | zero => exact ⟨[], List.nodup_nil, (fun b hb => by cases hb), .emp .nil⟩
    | succ i =>
      obtain ⟨bi, h1, h2, h3⟩ := hf i (by simpa using hi)
      exact ⟨bi, h1, fun b hb => ⟨(h2 b hb).1, by show f b + 1 = i + 1; rw [(h2 b hb).2]⟩, h3⟩
  | @blk bs bs' sz m g cs ty cap l xs hg hc hm hs hS hk k ih1 ih2 =>
    intro hn
    rw [← List.cons_append, List.nodup_append] at hn
    obtain ⟨n1, n2, n3⟩ := hn
    obtain ⟨f, hf⟩ := ih2 n2
    refine ⟨fun b => if b ∈ g :: bs then 0 else f b + 1, fun i hi => ?_⟩
    cases i with
    | zero =>
      refine ⟨g :: (bs ++ []), by rw [List.append_nil]; exact n1, fun b hb => ?_, .blk hg hc hm hs hS hk .nil⟩
      rw [List.append_nil] at hb
      exact ⟨by rw [← List.cons_append]; exact List.mem_append_left _ hb, if_pos hb⟩
    | succ i =>
      obtain ⟨bi, h1, h2, h3⟩ := hf i (by simpa using hi)
      refine ⟨bi, h1, fun b hb => ?_, h3⟩
      obtain ⟨k1, k2⟩ := h2 b hb
      refine ⟨by rw [← List.cons_append]; exact List.mem_append_right _ k1, ?_⟩
      show (if b ∈ g :: bs then 0 else f b + 1) = i + 1
      rw [if_neg (fun e => n3 b e b k1 rfl), k2]
/-- a list of lists that nobody else sees becomes a variable of its cells -/
theorem Rel.bMk (h : Rel G s a w) {c j : Nat} {l : List V} {X : Value} {dd : Nat} (hX : OwnU G w (.rs c j) 1 l X) (hne : l ≠ []) (hd : s.b dd = none) :
    ∃ G', Rel G' { s with b := upd s.b dd (some (.box (l.map V.flat).flatten)) } a w ∧ Tr G'.S G'.β (.bref s.lv dd l.length) X ∧ Fr s.lv G w G' w ∧ Le G G' ∧ (∀ k q, q ≠ .rs c j → G.ω k = some q → G'.ω k = some q) ∧ G'.S = G.S := by
  obtain ⟨a0, cap, rfl, ⟨hn, _⟩ | ⟨g, cs, cty, bs, rfl, hn, hω', hg, hcs, hlc, hs0, hS, hk⟩⟩ := hX.inv
  · exact absurd hn hne
  have hω := hω' g (List.mem_cons_self ..)
  have hgb : g ∉ bs := (List.nodup_cons.1 hn).1
  obtain ⟨f, hf⟩ := hk.parts (List.nodup_cons.1 hn).2
  have hfl : (l.map V.flat).flatten.length = l.length := by rw [flat_len hs0, Nat.mul_one]
  have hβ := β_none h (lv := s.lv) (t := dd) (by rw [ob_b]; exact hd)
  let G' : Gh := { S := G.S, β := fun l u => if l = s.lv ∧ u = dd then some g else G.β l u, ω := fun k => if k = g then some (.ob s.lv dd) else if k ∈ bs then some (.cl s.lv dd (f k)) else G.ω k }
  have hle : Le G G' := ⟨fun _ _ _ hc => hc, fun l u g' hg' => by
    show (if l = s.lv ∧ u = dd then _ else _) = _
    rw [if_neg (by rintro ⟨rfl, rfl⟩; rw [hβ] at hg'; cases hg')]; exact hg'⟩
  have hso : ∀ k q, q ≠ .rs c j → G.ω k = some q → G'.ω k = some q := by
    intro k q hq hk'
    show (if k = g then _ else if k ∈ bs then _ else _) = _
    rw [if_neg (by rintro rfl; rw [hω] at hk'; exact hq (Option.some.inj hk').symm), if_neg (fun e => by rw [hω' k (List.mem_cons_of_mem _ e)] at hk'; exact hq (Option.some.inj hk').symm)]
    exact hk'
  refine ⟨G', ⟨h.size, h.defers, fun t => (h.slot t).mono hle fun c' j' k hk => ⟨rfl, fun _ => rfl, hso k _ (fun e => by cases e) hk⟩, fun lv t ob' hob => ?_, fun lv t g' hg' => ?_, h.imm, fun g' q hq => ?_⟩, ?_, ⟨rfl, rfl, rfl, Nat.le_refl _, fun k hk hm => ⟨rfl, ?_, fun _ => rfl⟩, fun _ _ _ e => e, fun l' t' hl' => ?_⟩, hle, hso, rfl⟩
  · rw [ob_upd] at hob
    split at hob
    · rename_i he
      obtain ⟨rfl, rfl⟩ := he
      obtain rfl := Option.some.inj hob
      refine ⟨g, ?_, ?_, cs, cty, hg, by rw [hfl, hcs, Nat.mul_one]; exact hlc, hS, fun i hi => ?_⟩
      · show (if _ ∧ _ then _ else _) = _; rw [if_pos ⟨rfl, rfl⟩]
      · show (if _ = _ then _ else _) = _; rw [if_pos rfl]
      · obtain ⟨bi, b1, b2, b3⟩ := hf i hi
        have ex : (cs.toList.take (l.length * 1)).getD i undef = cs.getD i undef := by
          rw [hfl] at hi
          simp only [List.getD_eq_getElem?_getD, List.getElem?_take, Nat.mul_one, if_pos hi, Array.getD_eq_getD_getElem?]
          simp
        rw [ex] at b3
        have hbi : ∀ b ∈ bi, G'.ω b = some (.cl s.lv t i) := fun b hb => by
          obtain ⟨k1, k2⟩ := b2 b hb
          show (if b = g then _ else if b ∈ bs then _ else _) = _
          rw [if_neg (by rintro rfl; exact hgb k1), if_pos k1, k2]
        have b4 : DTs G'.S G'.β w bi [(l.map V.flat).flatten.getD i .undef] [cs.getD i undef] := b3.mono (fun v x _ hT => hle.tr hT) fun _ _ => ⟨rfl, fun _ => rfl⟩
        generalize (l.map V.flat).flatten.getD i .undef = v at b4 ⊢
        generalize cs.getD i undef = xv at b4 ⊢
        by_cases hq : ∃ sz m, v = .uq sz m
        · obtain ⟨sz, m, rfl⟩ := hq
          exact ⟨bi, b1, hbi, b4⟩
        · cases b4 with
          | leaf hp hT k => exact OwnC.of_view hT fun sz m e => by subst e; cases hp
          | emp k => exact absurd ⟨_, _, rfl⟩ hq
          | blk _ _ _ _ _ _ k => exact absurd ⟨_, _, rfl⟩ hq
    · obtain ⟨g', h1, h2, h3⟩ := h.obj lv t ob' hob
      exact ⟨g', hle.β _ _ _ h1, hso _ _ (fun e => by cases e) h2, h3.mono hle ⟨rfl, fun _ => rfl⟩ fun i k hk => ⟨rfl, fun _ => rfl, hso _ _ (fun e => by cases e) hk⟩⟩
  · rw [ob_upd]
    split
    · exact ⟨_, rfl⟩
    · rename_i hne'
      have hg2 : (if lv = s.lv ∧ t = dd then some g else G.β lv t) = some g' := hg'
      rw [if_neg hne'] at hg2
      exact h.dom _ _ _ hg2
  · have hq' : (if g' = g then some (Pl.ob s.lv dd) else if g' ∈ bs then some (Pl.cl s.lv dd (f g')) else G.ω g') = some q := hq
    split at hq'
    · rename_i e; subst e; exact h.lim _ _ hω
    · split at hq'
      · rename_i e; exact h.lim _ _ (hω' g' (List.mem_cons_of_mem _ e))
      · exact h.lim _ _ hq'
  · refine Tr.bref _ _ _ g cap ?_ hlc
    show (if _ ∧ _ then _ else _) = _; rw [if_pos ⟨rfl, rfl⟩]
  · show (if k = g then _ else if k ∈ bs then _ else _) = _
    rw [if_neg (by rintro rfl; exact hm _ hω trivial), if_neg (fun e => hm _ (hω' k (List.mem_cons_of_mem _ e)) trivial)]
  · show (if l' = s.lv ∧ t' = dd then _ else _) = _
    rw [if_neg (by omega)]
theorem uMakeN_grew {dd : Nat} {v v' : V} {s1 : St} (hv : uMakeN s dd v = some (v', s1)) : Grew s s1 := by
  unfold uMakeN at hv
  split at hv
  · split at hv
    · obtain ⟨_, rfl⟩ := Prod.mk.inj (Option.some.inj hv); exact .refl _
    · split at hv
      · split at hv
        · rename_i hd
          obtain ⟨_, rfl⟩ := Prod.mk.inj (Option.some.inj hv); exact .new hd
        · cases hv
      · cases hv
  · obtain ⟨_, rfl⟩ := Prod.mk.inj (Option.some.inj hv); exact .refl _
theorem uMakeN_ok (h : Rel G s a w) {j dd : Nat} {v v' : V} {x : Value} {s1 : St} (hX : OwnC G w (.rs 0 j) v x) (hv : uMakeN s dd v = some (v', s1)) :
    ∃ G', Rel G' s1 a w ∧ OwnC G' w (.rs 0 j) v' x ∧ Fr s.lv G w G' w ∧ Le G G' ∧ (∀ k q, q ≠ .rs 0 j → G.ω k = some q → G'.ω k = some q) ∧ G'.S = G.S := by
  unfold uMakeN at hv
  split at hv
  · rename_i sz y l
    split at hv
    · obtain ⟨rfl, rfl⟩ := Prod.mk.inj (Option.some.inj hv)
      exact ⟨G, h, hX, Fr.refl _ _ _, Le.refl _, fun _ _ _ e => e, rfl⟩
    · split at hv
      · rename_i hc
        obtain ⟨rfl, _⟩ := hc
        split at hv
        · rename_i hd
          obtain ⟨rfl, rfl⟩ := Prod.mk.inj (Option.some.inj hv)
          obtain ⟨G', h1, h2, h3, h4, h5, h6⟩ := h.bMk (l := y :: l) hX (by simp) hd
          exact ⟨G', h1, OwnC.of_view h2 (fun _ _ e => by cases e), h3, h4, h5, h6⟩
        · cases hv
      · cases hv
  · obtain ⟨rfl, rfl⟩ := Prod.mk.inj (Option.some.inj hv)
    exact ⟨G, h, hX, Fr.refl _ _ _, Le.refl _, fun _ _ _ e => e, rfl⟩
theorem uMakesN_grew : ∀ {l : List V} {s : St} {dd : Nat} {l' : List V} {s1 : St}, uMakesN s dd l = some (l', s1) → Grew s s1 := by
  intro l
  induction l with
  | nil => intro s dd l' s1 hv; obtain ⟨_, rfl⟩ := Prod.mk.inj (Option.some.inj hv); exact .refl _
  | cons c l ih =>
    intro s dd l' s1 hv
    unfold uMakesN at hv
    split at hv
    · rename_i l2 s2 h1
      obtain ⟨⟨v, s3⟩, hr, he⟩ := Option.map_eq_some_iff.1 hv
      obtain ⟨_, rfl⟩ := Prod.mk.inj he
      exact (ih h1).trans (uMakeN_grew hr)
    · cases hv
theorem uMakesN_ok {X : Nat → Value} : ∀ {l : List V} {G : Gh} {s : St} {k dd : Nat} {l' : List V} {s1 : St}, Rel G s a w → (∀ j, j < l.length → OwnC G w (.rs 0 (k + j)) (l.getD j .undef) (X (k + j))) → uMakesN s dd l = some (l', s1) →
    ∃ G', Rel G' s1 a w ∧ l'.length = l.length ∧ (∀ j, j < l.length → OwnC G' w (.rs 0 (k + j)) (l'.getD j .undef) (X (k + j))) ∧ Fr s.lv G w G' w ∧ Le G G' ∧ (∀ g q, (∀ j, k ≤ j → q ≠ .rs 0 j) → G.ω g = some q → G'.ω g = some q) ∧ G'.S = G.S := by
  intro l
  induction l with
  | nil =>
    intro G s k dd l' s1 h hX hv
    obtain ⟨rfl, rfl⟩ := Prod.mk.inj (Option.some.inj hv)
    exact ⟨G, h, rfl, fun j hj => absurd hj (Nat.not_lt_zero _), Fr.refl _ _ _, Le.refl _, fun _ _ _ e => e, rfl⟩
  | cons c l ih =>
    intro G s k dd l' s1 h hX hv
    unfold uMakesN at hv
    split at hv
    · rename_i l2 s2 h1
      obtain ⟨⟨v, s3⟩, hr, he⟩ := Option.map_eq_some_iff.1 hv
      obtain ⟨rfl, rfl⟩ := Prod.mk.inj he
      obtain ⟨G1, a1, a2, a3, a4, a5, a6, a7⟩ := ih (k := k + 1) h (fun j hj => by
        have := hX (j + 1) (by simpa using hj)
        rw [show k + 1 + j = k + (j + 1) by omega]
        exact this) h1
      have hc : OwnC G1 w (.rs 0 k) c (X k) := (hX 0 (by simp)).mono a5 fun g hg => ⟨rfl, fun i => by rw [a7], a6 g _ (fun j hj e => by injection e; omega) hg⟩
      obtain ⟨G2, b1, b2, b3, b4, b5, b6⟩ := uMakeN_ok a1 hc hr
      have hlv : s2.lv = s.lv := (uMakesN_grew h1).lv
      refine ⟨G2, b1, by simp [a2], fun j hj => ?_, a4.trans (by rw [hlv] at b3; exact b3), ⟨fun g j c e => b4.S _ _ _ (a5.S _ _ _ e), fun l t g e => b4.β _ _ _ (a5.β _ _ _ e)⟩, fun g q hq e => b5 g q (hq k (Nat.le_refl _)) (a6 g q (fun j hj => hq j (by omega)) e), b6.trans a7⟩
      cases j with
      | zero => exact b2
      | succ j =>
        have := a3 j (by simpa using hj)
        rw [show k + 1 + j = k + (j + 1) by omega] at this
        exact this.mono b4 fun g hg => ⟨rfl, fun i => by rw [b6], b5 g _ (fun e => by injection e; omega) hg⟩
    · cases hv
theorem mkOk_N : MksOk uMakesN := ⟨uMakesN_grew, uMakesN_ok⟩
theorem setOb_own (s : St) (u : Nat) (ob : Ob) : s.setOb s.lv u ob = { s with b := upd s.b u (some ob) } := by
  unfold St.setOb
  rw [if_pos (show s.lv = s.o.length from rfl)]
/-- a cell's list becomes an object, the world standing still -/
theorem Rel.cellMk (h : Rel G s a w) {u off dd sz : Nat} {cs l : List V} (ho : s.b u = some (.box cs)) (hoff : off < cs.length) (hc : cs.getD off .undef = .uq sz l) (hne : l ≠ []) (hp : flatPure l = true) (hd : s.b dd = none) :
    ∃ G', Rel G' { s with b := upd (upd (upd s.b u (some (.box (setL cs off [.undef])))) dd (some (.arr false sz l))) u (some (.box (setL cs off [.aref s.lv dd l.length]))) } a w ∧ Fr s.lv G w G' w := by
  have ho' : s.ob s.lv u = some (.box cs) := by rw [ob_b]; exact ho
  obtain ⟨g, hg, hω, en, ety, hb, hl, hS, hT⟩ := h.obj s.lv u _ ho'
  have hle : Le G (G.ren (outF s.lv u off 1)) := G.ren_le _
  have len1 : (setL cs off [V.undef]).length = cs.length := length_setL _ _ _ (by show off + 1 ≤ _; omega)
  have hud : u ≠ dd := by rintro rfl; rw [ho] at hd; cases hd
  have r1 : Rel (G.ren (outF s.lv u off 1)) (s.setOb s.lv u (.box (setL cs off [.undef]))) a w := by
    refine h.setOb ho' hg hω hle rfl (fun k p hk hp _ hpk => ⟨rfl, fun _ => rfl, ?_⟩) h.imm (ren_lim h.lim) (by rw [ren_ω hω]; rfl) ?_
    · rw [ren_ω hpk]
      congr 1
      cases p with
      | cl l t' j =>
        simp only [outF]
        split
        · rename_i hh
          exact absurd (by rw [hh.1, hh.2.1]) (hp j)
        · rfl
      | _ => rfl
    · refine ⟨en, ety, hb, by rw [len1]; exact hl, hS, fun j hj => ?_⟩
      rw [len1] at hj
      rw [getD_setL _ _ _ _ (by show off + 1 ≤ _; omega)]
      split
      · rename_i hh
        have e : j = off := by have := hh.2; simp only [List.length_cons, List.length_nil] at this; omega
        subst e
        rw [Nat.sub_self]
        exact OwnC.of_view (.undef _) fun _ _ e => by cases e
      · rename_i hh
        exact (hT j hj).ren _ (by simp only [outF]; rw [if_neg (fun e => hh ⟨e.2.2.1, by simp only [List.length_cons, List.length_nil]; exact e.2.2.2⟩)])
  have hX : OwnU (G.ren (outF s.lv u off 1)) w (.rs 0 0) sz l (en.getD off undef) := by
    have h1 := hT off hoff
    rw [hc] at h1
    exact OwnC.ren (v := .uq sz l) h1 _ (by simp only [outF]; rw [if_pos ⟨trivial, trivial, Nat.le_refl _, by omega⟩, Nat.sub_self])
  have f1 : Fr s.lv G w (G.ren (outF s.lv u off 1)) w := ren_fr fun p => by
    cases p with
    | cl l t' j => exact .inr trivial
    | _ => exact .inl rfl
  rw [setOb_own] at r1
  obtain ⟨G2, k1, k2, k3, k4, k5, k6⟩ := r1.uMk (dd := dd) hX hne hp (by show (if dd = u then _ else _) = _; rw [if_neg (Ne.symm hud)]; exact hd)
  have k2 : Tr G2.S G2.β (.aref s.lv dd l.length) (en.getD off undef) := k2
  have k3 : Fr s.lv (G.ren (outF s.lv u off 1)) w G2 w := k3
  have ho2 : ({ s with b := upd (upd s.b u (some (.box (setL cs off [.undef])))) dd (some (.arr false sz l)) } : St).ob s.lv u = some (.box (setL cs off [.undef])) := by
    have := ob_b (s := { s with b := upd (upd s.b u (some (.box (setL cs off [.undef])))) dd (some (.arr false sz l)) }) u
    refine this.trans ?_
    show (if u = dd then _ else (if u = u then _ else _)) = _
    rw [if_neg hud, if_pos rfl]
  obtain ⟨g', m1, m2, en', ety', m3, m4, m5, m6⟩ := k1.obj s.lv u _ ho2
  obtain rfl : g' = g := by
    have := k4.β _ _ _ (hle.β _ _ _ hg)
    rw [m1] at this
    exact Option.some.inj this
  obtain rfl : en' = en := by rw [hb] at m3; injection m3 with e; injection e with e; exact e.symm
  have lenA : (setL cs off [V.aref s.lv dd l.length]).length = cs.length := length_setL _ _ _ (by show off + 1 ≤ _; omega)
  have new : ∀ j, j < (setL cs off [V.aref s.lv dd l.length]).length → OwnC G2 w (.cl s.lv u j) ((setL cs off [V.aref s.lv dd l.length]).getD j .undef) (en'.getD j undef) := fun j hj => by
    rw [lenA] at hj
    rw [getD_setL _ _ _ _ (by show off + 1 ≤ _; omega)]
    have h6 := m6 j (by rw [len1]; exact hj)
    rw [getD_setL _ _ _ _ (by show off + 1 ≤ _; omega)] at h6
    split
    · rename_i hh
      have e : j = off := by have := hh.2; simp only [List.length_cons, List.length_nil] at this; omega
      subst e
      rw [Nat.sub_self]
      exact OwnC.of_view k2 fun _ _ e => by cases e
    · rename_i hh
      rw [if_neg (by simpa using hh)] at h6
      exact h6
  have fin := setOb_own { s with b := upd (upd s.b u (some (.box (setL cs off [.undef])))) dd (some (.arr false sz l)) } u (.box (setL cs off [.aref s.lv dd l.length]))
  have key := k1.setOb (ob := .box (setL cs off [.aref s.lv dd l.length])) ho2 m1 m2 (Le.refl _) rfl (fun k p _ _ _ hpk => ⟨rfl, fun _ => rfl, hpk⟩) k1.imm k1.lim m2 ⟨en', ety', m3, by rw [lenA, ← len1]; exact m4, m5, fun j hj => new j hj⟩
  exact ⟨G2, fin ▸ key, f1.trans k3⟩
theorem op_loadM {dd : Nat} {x : Operand} {t : TypeId} {v : V} {s1 : St} (h : Rel G s a w) (hv : vLoadM P s dd t (s.see P 0 x) = some (v, s1)) : OpOk P ⟨d, .load t x, ty, pos, af, gd⟩ G s a w v s1 := by
  unfold vLoadM at hv
  split at hv
  · rename_i lv u off hs
    split at hv
    · rename_i hlv
      subst hlv
      split at hv
      · rename_i cs ho
        split at hv
        · rename_i hc
          obtain ⟨hoff, hsz, hag⟩ := hc
          split at hv
          · rename_i sz y l hcell
            split at hv
            · rename_i hfp
              split at hv
              · rename_i hd
                obtain ⟨rfl, rfl⟩ := Prod.mk.inj (Option.some.inj hv)
                obtain ⟨G1, r1, f1⟩ := h.cellMk (l := y :: l) ho hoff hcell (by simp) hfp hd
                generalize hs3 : ({ s with b := upd (upd (upd s.b u (some (.box (setL cs off [.undef])))) dd (some (.arr false sz (y :: l)))) u (some (.box (setL cs off [.aref s.lv dd (y :: l).length]))) } : St) = s3 at r1
                have ht3 : s3.t = s.t := by rw [← hs3]
                have hlv3 : s3.lv = s.lv := by rw [← hs3]; rfl
                have hsee : s3.see P 0 x = .ptr s.lv u off := by
                  rw [← hs]
                  cases x with
                  | tmp i => show (s3.t i).view = (s.t i).view; rw [ht3]
                  | const v => rfl
                  | func f => rfl
                  | global g => rfl
                have hob3 : s3.ob s.lv u = some (.box (setL cs off [.aref s.lv dd (y :: l).length])) := by
                  have e9 : s3.ob s3.lv u = s3.b u := ob_b u
                  rw [hlv3] at e9
                  rw [e9, ← hs3]
                  show (if u = u then _ else _) = _
                  rw [if_pos rfl]
                have hld : vLoad P s3 false t (s3.see P 0 x) = some (.aref s.lv dd (y :: l).length, s3) := by
                  rw [hsee]
                  unfold vLoad
                  dsimp only
                  rw [hob3]
                  dsimp only
                  have len1 : (setL cs off [V.aref s.lv dd (y :: l).length]).length = cs.length := length_setL _ _ _ (by show off + 1 ≤ _; omega)
                  rw [if_pos ⟨by rw [len1, hsz]; omega, by rw [hsz]; decide⟩, hsz, hag, if_neg Bool.false_ne_true]
                  have e1 : ((setL cs off [V.aref s.lv dd (y :: l).length]).drop off).take 1 = [V.aref s.lv dd (y :: l).length] := by
                    unfold setL
                    rw [List.append_assoc, List.drop_left' (by rw [List.length_take]; omega)]
                    rfl
                  rw [e1]
                  rfl
                obtain ⟨X, G2, m1, m2, m3, m4⟩ := op_loadS (d := d) (ty := ty) (pos := pos) (af := af) (gd := gd) r1 hld
                rw [hlv3] at m4
                exact ⟨X, w, G2, m1, hs3 ▸ m2, m3, f1.trans m4⟩
              · cases hv
            · cases hv
          · cases hv
        · cases hv
      · cases hv
    · cases hv
  · cases hv
end Go.Ev
namespace Go.Ev
open Go
set_option linter.unusedVariables false
set_option linter.unusedSimpArgs false
variable {P : Program} {G : Gh} {s : St} {a : Act} {w : World} {o : Oper}
variable {d : Option Nat} {ty : TypeId} {pos : String} {af : Array Edge} {gd : Option (Nat × Bool)}

theorem elemOf_slice {t e : TypeId} (h : P.underlying t = some (.slice e)) : elemOf P t = e := by unfold elemOf; rw [h]
theorem pk {x : Option V} {v : V} {s1 : St} (h : x.map (·, s) = some (v, s1)) : x = some v ∧ s1 = s := by
  obtain ⟨u, hu, he⟩ := Option.map_eq_some_iff.1 h
  obtain ⟨rfl, rfl⟩ := Prod.mk.inj he
  exact ⟨hu, rfl⟩
theorem evV_ok {H : Hint} {dd : Nat} {ty' : TypeId} {op : Op} {v : V} {s1 : St} (h : Rel G s a w) (hth : ∀ {i v s1}, thaw s (s.t i) = some (v, s1) → ∃ G', Rel G' s1 a w ∧ OwnS G' w Pl.rs v (a.eval (.tmp i)) ∧ Fr s.lv G w G' w) (hv : evV P H dd ty op s = some (v, s1)) : OpOk P ⟨d, op, ty, pos, af, gd⟩ G s a w v s1 := by
  have mv : ∀ x : Operand, (op = .move x ∨ op = .assign x) → (match x with
    | .tmp i => if memN dd H.own then thaw s (s.t i) else if memN dd H.frz then s.tree P ty (.tmp i) else if memN dd H.take then (if memN dd H.make then uMake (s.drop x) dd (s.t i) else some (s.t i, s.drop x)) else some ((s.t i).view, s)
    | x => some (rd P s.t ty x, s)) = some (v, s1) → OpOk P ⟨d, op, ty, pos, af, gd⟩ G s a w v s1 := by
    intro x hx hv
    split at hv
    · split at hv
      · obtain ⟨G', k1, k2, k3⟩ := hth hv
        exact ⟨_, w, G', by rcases hx with rfl | rfl <;> rfl, k1, k2, k3⟩
      split at hv
      · exact op_frz h op hx hv
      · split at hv
        · split at hv
          · exact op_takeM h op hx hv
          · obtain ⟨rfl, rfl⟩ := Prod.mk.inj (Option.some.inj hv)
            exact op_take h op hx
        · obtain ⟨rfl, rfl⟩ := Prod.mk.inj (Option.some.inj hv)
          exact op_move h op hx
    · rename_i hn
      obtain ⟨rfl, rfl⟩ := Prod.mk.inj (Option.some.inj hv)
      exact op_const h op hx fun i e => hn i e
  unfold evV at hv
  split at hv
  · exact mv _ (.inl rfl) hv
  · exact mv _ (.inr rfl) hv
  · -- pick
    split at hv
    · rename_i cb hc
      obtain ⟨rfl, rfl⟩ := Prod.mk.inj (Option.some.inj hv)
      exact op_pick h hc
    · cases hv
  · -- alloc
    split at hv
    · rename_i z hb hz
      split at hv
      · obtain ⟨rfl, rfl⟩ := Prod.mk.inj (Option.some.inj hv)
        exact op_alloc h hb hz
      · cases hv
    · cases hv
  · -- box
    split at hv
    · cases hv
    · cases hv
    · rename_i u hb ht hu
      split at hv
      · obtain ⟨rfl, rfl⟩ := Prod.mk.inj (Option.some.inj hv)
        exact op_box h hb rfl hu ht
      · cases hv
    · cases hv
  · -- build
    split at hv
    · rename_i fs z hu hz
      split at hv
      · rename_i hf
        obtain ⟨r, hr, he⟩ := Option.map_eq_some_iff.1 hv
        obtain ⟨rfl, rfl⟩ := Prod.mk.inj he
        exact op_build h hu hz hf hr
      · cases hv
    · rename_i n e z hu hz
      split at hv
      · rename_i hc
        simp only [Bool.and_eq_true, bne_iff_ne, ne_eq, beq_iff_eq, decide_eq_true_eq] at hc
        obtain ⟨⟨⟨⟨h1, h2⟩, h3⟩, h4⟩, h5⟩ := hc
        split at hv
        · rename_i vs s2 ht
          split at hv
          · rename_i hf
            obtain ⟨rfl, rfl⟩ := Prod.mk.inj (Option.some.inj hv)
            exact op_buildArray h hu hz h3 h4 h1 h2 ht hf
          · cases hv
        · cases hv
      · cases hv
    · cases hv
  · -- buildSlice
    rename_i t n ps
    split at hv
    · split at hv
      · rename_i hc
        simp only [Bool.and_eq_true, bne_iff_ne, ne_eq, beq_iff_eq, decide_eq_true_eq] at hc
        obtain ⟨⟨⟨⟨⟨h1, h2⟩, h3⟩, h4⟩, h5⟩, h6⟩ := hc
        obtain ⟨e, he, hel⟩ := isSl_spec h1
        obtain ⟨z, hz⟩ := Option.isSome_iff_exists.1 h6
        have hes : elemSz P t = szOf P e := by unfold elemSz; rw [hel]
        rw [hes] at h4 h5 hv
        rw [hel] at hz hv
        split at hv
        · rename_i vs s2 ht
          split at hv
          · rename_i hf
            obtain ⟨rfl, rfl⟩ := Prod.mk.inj (Option.some.inj hv)
            rw [Bool.and_eq_true] at hf
            exact op_buildOwn h he h4 hz h2 h3 h5 ht hf.1
          · cases hv
        · cases hv
      · cases hv
    split at hv
    · rename_i hc
      simp only [Bool.and_eq_true, bne_iff_ne, ne_eq, beq_iff_eq, decide_eq_true_eq] at hc
      obtain ⟨⟨⟨⟨⟨h1, h2⟩, h3⟩, h4⟩, h5⟩, h6⟩ := hc
      obtain ⟨e, he, hel⟩ := isSl_spec h1
      obtain ⟨z, hz⟩ := Option.isSome_iff_exists.1 h6
      have hes : elemSz P t = szOf P e := by unfold elemSz; rw [hel]
      rw [hes] at h4 h5 hv
      rw [hel] at hz hv
      split at hv
      · rename_i vs s2 ht
        split at hv
        · rename_i hf
          split at hv
          · split at hv
            · rename_i hb
              obtain ⟨rfl, rfl⟩ := Prod.mk.inj (Option.some.inj hv)
              exact op_buildArr h he h4 hz h2 h3 h5 ht hf hb
            · cases hv
          · obtain ⟨rfl, rfl⟩ := Prod.mk.inj (Option.some.inj hv)
            exact op_buildSlice h he h4 hz h2 h3 h5 ht hf
        · cases hv
      · cases hv
    · cases hv
  · split at hv
    · exact op_loadM h hv
    · exact op_load h hv
  · -- nil
    split at hv <;> first
      | (cases hv; done)
      | (rename_i hc
         obtain ⟨rfl, rfl⟩ := Prod.mk.inj (Option.some.inj hv)
         refine op_nil h hc ?_
         first
          | exact .inl ⟨_, _, _, rfl⟩
          | exact .inr (.inl ⟨_, rfl⟩)
          | exact .inr (.inr (.inl ⟨_, _, _, _, rfl⟩))
          | exact .inr (.inr (.inr ⟨_, _, rfl⟩)))
  · split at hv
    · rename_i hn
      obtain ⟨k, rfl⟩ := pk hv; exact op_nilCmp h hn k
    · obtain ⟨k, rfl⟩ := pk hv; exact op_bin h k
  · obtain ⟨k, rfl⟩ := pk hv; exact op_un h k
  · obtain ⟨k, rfl⟩ := pk hv; exact op_convert h k
  · -- makeFunc
    split at hv
    · rename_i hf
      obtain ⟨cs, hcs, he⟩ := Option.map_eq_some_iff.1 hv
      obtain ⟨rfl, rfl⟩ := Prod.mk.inj he
      rename_i first caps
      obtain rfl : first = #[] := Array.isEmpty_iff.1 hf
      exact op_makeFunc h hcs
    · cases hv
  · -- makeMap
    split at hv
    · rename_i hb
      obtain ⟨rfl, rfl⟩ := Prod.mk.inj (Option.some.inj hv)
      exact op_makeMap h hb
    · cases hv
  · -- makeSlice
    rename_i t l c
    split at hv
    · rename_i n m z hx hy hz
      split at hv
      · rename_i hc
        obtain ⟨h1, h2, h3, h4, h5⟩ := hc
        obtain ⟨e, he, hel⟩ := isSl_spec h1
        have hes : elemSz P t = szOf P e := by unfold elemSz; rw [hel]
        rw [hes] at h2 h4 h5 hv
        rw [hel] at hz h3 hv
        split at hv
        · rename_i hr
          split at hv
          · split at hv
            · rename_i hb
              obtain ⟨rfl, rfl⟩ := Prod.mk.inj (Option.some.inj hv)
              exact op_makeArr h he hx hy hz h4 h2 h5 h3 hr.1 hr.2.1 hr.2.2 hb
            · cases hv
          · split at hv
            · split at hv
              · rename_i hb
                split at hv
                · rename_i hnm
                  obtain ⟨rfl, rfl⟩ := Prod.mk.inj (Option.some.inj hv)
                  exact op_makeOwn h he hx hy hz h4 h2 h5 h3 hr.1 hr.2.1 hr.2.2 hb hnm.1
                · cases hv
              · cases hv
            · obtain ⟨rfl, rfl⟩ := Prod.mk.inj (Option.some.inj hv)
              exact op_make h he hx hy hz h4 h2 h5 h3 hr.1 hr.2.1 hr.2.2
        · cases hv
      · cases hv
    · cases hv
  · -- slice
    split at hv
    · rename_i l r m hl hr hm
      obtain ⟨k, rfl⟩ := pk hv
      exact op_slice h hl hr hm k
    · cases hv
  · obtain ⟨k, rfl⟩ := pk hv; exact op_fieldAddr h k
  · obtain ⟨k, rfl⟩ := pk hv; exact op_field h k
  · obtain ⟨k, rfl⟩ := pk hv; exact op_indexAddr h k
  · obtain ⟨k, rfl⟩ := pk hv; exact op_index h k
  · split at hv
    · rename_i kt e hu
      obtain ⟨k, rfl⟩ := pk hv; exact op_lookup h hu k
    · cases hv
  · -- extract
    split at hv
    · split at hv
      · rename_i u l hu
        obtain ⟨x, hx, he⟩ := Option.map_eq_some_iff.1 hv
        obtain ⟨rfl, rfl⟩ := Prod.mk.inj he
        have hop := op_extract (d := some dd) (ty := ty) (pos := pos) (af := af) (gd := gd) (P := P) h hu hx
        split
        · exact hop.settle rfl
        · exact hop
      · cases hv
    · cases hv
  · -- builtins
    rename_i b args argTypes
    obtain ⟨args⟩ := args
    obtain ⟨argTypes⟩ := argTypes
    dsimp only at hv
    split at hv
    · obtain ⟨k, rfl⟩ := pk hv; exact op_len h k
    · obtain ⟨k, rfl⟩ := pk hv; exact op_min h k
    · obtain ⟨k, rfl⟩ := pk hv; exact op_max h k
    · split at hv
      · split at hv
        · rename_i hy
          obtain ⟨u, hu, he⟩ := Option.map_eq_some_iff.1 hv
          obtain ⟨rfl, rfl⟩ := Prod.mk.inj he
          exact op_appendO h hy hu
        · cases hv
      · obtain ⟨u, hu, he⟩ := Option.map_eq_some_iff.1 hv
        obtain ⟨rfl, rfl⟩ := Prod.mk.inj he
        exact op_appendU h hu
    · cases hv
  · cases hv
theorem evU_ok {H : Hint} {op : Op} {s1 : St} (h : Rel G s a w) (hv : evU P H op s = some s1) : OpU P ⟨d, op, ty, pos, af, gd⟩ G s a w s1 := by
  unfold evU at hv
  split at hv
  · split at hv
    · exact op_storeM mkOk_M h hv
    · split at hv
      · exact op_storeM mkOk_F h hv
      · split at hv
        · exact op_storeM mkOk_N h hv
        · exact op_store h hv
  · exact op_map h hv _ (.inl rfl)
  · exact op_map h hv _ (.inr rfl)
  · cases hv
end Go.Ev
