/- Stores; parts of a tuple; structs. Parts of a tuple; structs and arrays. -/
import Derived.Test.YtcmnfoombinccaaEvD
set_option linter.unusedVariables false
set_option linter.unusedSimpArgs false
namespace Go.Ev
open Go
set_option linter.unusedVariables false
set_option linter.unusedSimpArgs false
variable {P : Program} {G : Gh} {s : St} {a : Act} {w : World} {o : Oper}
variable {d : Option Nat} {ty : TypeId} {pos : String} {af : Array Edge} {gd : Option (Nat × Bool)}

theorem store_run {t : TypeId} (hz : szOf P t ≠ 0) {g off : Nat} {cs : Array Value} {ct : TypeId} {x : Value} (hg : w.heap[g]? = some (.cells cs ct (0, 0))) (hx : x.cells.size = szOf P t) (hb : off + szOf P t ≤ cs.size) (h1 : ∀ u ∈ x.cells.toList, u.oneCell' = true) :
    (storeVar t ⟨g, off, none⟩ x).run P w = .ok () (w.setRow g (cs.toList.take off ++ x.cells.toList ++ cs.toList.drop (off + szOf P t)).toArray) := by
  have hst := run_storeCells_at P g off ct x.cells.toList 0 cs w hg (by simp [hx]; exact hb) h1
  simp only [Nat.add_zero, Array.length_toList, hx] at hst
  unfold storeVar
  simp only [Sem.run_bind, run_sizeOf' hz, Result.andThen_ok, hx, ne_eq, not_true_eq_false, if_false]
  exact hst
theorem getD_row {cs : Array Value} {vs : List Value} {off n j : Nat} (hv : vs.length = n) (hb : off + n ≤ cs.size) : (cs.toList.take off ++ vs ++ cs.toList.drop (off + n)).toArray.getD j Go.undef = if off ≤ j ∧ j < off + n then vs.getD (j - off) Go.undef else cs.getD j Go.undef := by
  simp only [Array.getD_eq_getD_getElem?, List.getElem?_toArray, List.append_assoc, List.getD_eq_getElem?_getD]
  by_cases h1 : j < off
  · rw [List.getElem?_append_left (by simp; omega), List.getElem?_take, if_pos h1, if_neg (by omega)]
    simp
  · rw [List.getElem?_append_right (by simp; omega)]
    simp only [List.length_take, Array.length_toList, Nat.min_eq_left (show off ≤ cs.size by omega)]
    by_cases h2 : j - off < vs.length
    · rw [List.getElem?_append_left h2, if_pos (by omega)]
    · rw [List.getElem?_append_right (by omega), if_neg (by omega), List.getElem?_drop]
      rw [show off + n + (j - off - vs.length) = j by omega]
      simp
theorem size_row {cs : Array Value} {vs : List Value} {off n : Nat} (hv : vs.length = n) (hb : off + n ≤ cs.size) : (cs.toList.take off ++ vs ++ cs.toList.drop (off + n)).toArray.size = cs.size := by
  simp only [List.size_toArray, List.length_append, List.length_take, List.length_drop, Array.length_toList]
  omega
theorem drop_ob (x : Operand) (lv u : Nat) : (s.drop x).ob lv u = s.ob lv u := by cases x <;> rfl
theorem drop_lv (x : Operand) : (s.drop x).lv = s.lv := by cases x <;> rfl
def putOF (lv u off : Nat) : Pl → Pl
  | .rs 0 j => .cl lv u (off + j)
  | p => p
theorem DTs.split {S β} {w : World} : ∀ {l1 l2 : List V} {bs : List Nat} {xs : List Value}, DTs S β w bs (l1 ++ l2) xs → ∃ bs1 bs2, bs = bs1 ++ bs2 ∧ DTs S β w bs1 l1 (xs.take l1.length) ∧ DTs S β w bs2 l2 (xs.drop l1.length) := by
  intro l1
  induction l1 with
  | nil => intro l2 bs xs h; exact ⟨[], bs, rfl, .nil, h⟩
  | cons v l1 ih =>
    intro l2 bs xs h
    rw [List.cons_append] at h
    cases h with
    | leaf hp h k =>
      obtain ⟨b1, b2, rfl, k1, k2⟩ := ih k
      exact ⟨b1, b2, rfl, .leaf hp h k1, k2⟩
    | emp k =>
      obtain ⟨b1, b2, rfl, k1, k2⟩ := ih k
      exact ⟨b1, b2, rfl, .emp k1, k2⟩
    | blk hg hc hm hs hS hk k =>
      obtain ⟨b1, b2, rfl, k1, k2⟩ := ih k
      refine ⟨_ :: (_ ++ b1), b2, ?_, .blk hg hc hm hs hS hk k1, k2⟩
      simp
/-- cells that stand by themselves, together -/
theorem DTs.of_own {p : Nat → Pl} (hp : ∀ i j, p i = p j → i = j) : ∀ {c : List V} {xs : List Value} {k : Nat}, c.length = xs.length → c.all cellU = true → (∀ j, j < c.length → OwnC G w (p (k + j)) (c.getD j .undef) (xs.getD j Go.undef)) →
    ∃ bs : List Nat, bs.Nodup ∧ (∀ b ∈ bs, ∃ j, k ≤ j ∧ G.ω b = some (p j)) ∧ DTs G.S G.β w bs c xs := by
  intro c
  induction c with
  | nil => intro xs k hl _ _; obtain rfl := List.eq_nil_of_length_eq_zero hl.symm; exact ⟨[], List.nodup_nil, (fun b hb => by cases hb), .nil⟩
  | cons v c ih =>
    intro xs k hl hu h
    cases xs with
    | nil => cases hl
    | cons x xs =>
      rw [List.all_cons, Bool.and_eq_true] at hu
      obtain ⟨bs, h1, h2, h3⟩ := ih (k := k + 1) (by simpa using hl) hu.2 (fun j hj => by
        have := h (j + 1) (by simpa using hj)
        rw [show k + 1 + j = k + (j + 1) by omega]
        exact this)
      have h0 : OwnC G w (p k) v x := h 0 (by simp)
      by_cases hq : ∃ sz l, v = .uq sz l
      · obtain ⟨sz, l, rfl⟩ := hq
        obtain ⟨b0, n0, t0, d0⟩ := (h0 : OwnU G w (p k) sz l x)
        refine ⟨b0 ++ bs, List.nodup_append.2 ⟨n0, h1, fun a ha b hb e => ?_⟩, fun b hb => ?_, ?_⟩
        · subst e
          obtain ⟨j, hj, e⟩ := h2 a hb
          rw [t0 a ha] at e
          have := hp _ _ (Option.some.inj e)
          omega
        · rcases List.mem_append.1 hb with hb | hb
          · exact ⟨k, Nat.le_refl _, t0 b hb⟩
          · obtain ⟨j, hj, e⟩ := h2 b hb
            exact ⟨j, by omega, e⟩
        · exact d0.app h3
      · have hpv : pureC v = true := by
          have := hu.1
          cases v <;> first | exact absurd ⟨_, _, rfl⟩ hq | exact this
        have hnw : ∀ l, v ≠ .nw l := by rintro l rfl; cases hpv
        have hT : Tr G.S G.β v x := by
          have := h0.view
          have e : v.viewC = v := by
            cases v <;> first | rfl | exact absurd ⟨_, _, rfl⟩ hq | exact absurd rfl (hnw _) | skip
            rename_i o sz l
            cases o
            · rfl
            · cases hpv
          rw [e] at this
          exact this
        exact ⟨bs, h1, fun b hb => by obtain ⟨j, hj, e⟩ := h2 b hb; exact ⟨j, by omega, e⟩, .leaf hpv hT h3⟩
theorem flat_set {l : List V} {i : Nat} {v : V} (hi : i < l.length) : ((l.set i v).map V.flat).flatten = ((l.take i).map V.flat).flatten ++ (v.flat ++ ((l.drop (i + 1)).map V.flat).flatten) := by
  rw [List.set_eq_take_append_cons_drop, if_pos hi, List.map_append, List.flatten_append, List.map_cons, List.flatten_cons]
theorem flat_parts {l : List V} {i : Nat} (hi : i < l.length) : (l.map V.flat).flatten = ((l.take i).map V.flat).flatten ++ ((l[i]).flat ++ ((l.drop (i + 1)).map V.flat).flatten) := by
  have := flat_set (v := l[i]) hi
  rw [List.set_getElem_self] at this
  exact this
theorem DTs.set {S β} {w : World} {bs bv : List Nat} {l : List V} {sz i : Nat} {v : V} {xs xv : List Value} (h : DTs S β w bs (l.map V.flat).flatten xs) (hs : ∀ x ∈ l, x.flat.length = sz) (hi : i < l.length) (hv : DTs S β w bv v.flat xv) :
    ∃ bs', (∀ b ∈ bs', b ∈ bs ∨ b ∈ bv) ∧ (bs.Nodup → bv.Nodup → (∀ b ∈ bs, ∀ c ∈ bv, b ≠ c) → bs'.Nodup) ∧ DTs S β w bs' ((l.set i v).map V.flat).flatten (xs.take (i * sz) ++ (xv ++ xs.drop (i * sz + sz))) := by
  rw [flat_parts hi] at h
  obtain ⟨b1, b2, rfl, k1, k2⟩ := h.split
  obtain ⟨b3, b4, rfl, k3, k4⟩ := k2.split
  have e1 : ((l.take i).map V.flat).flatten.length = i * sz := by
    rw [flat_len fun x hx => hs x (List.mem_of_mem_take hx), List.length_take, Nat.min_eq_left (Nat.le_of_lt hi)]
  have e2 : (l[i]).flat.length = sz := hs _ (List.getElem_mem hi)
  rw [e1] at k1 k4
  rw [e2, List.drop_drop] at k4
  rw [flat_set hi]
  refine ⟨b1 ++ (bv ++ b4), fun b hb => ?_, fun n1 n2 n3 => ?_, k1.app (hv.app k4)⟩
  · simp only [List.mem_append] at hb ⊢
    rcases hb with hb | hb | hb
    · exact .inl (.inl hb)
    · exact .inr hb
    · exact .inl (.inr (.inr hb))
  · rw [List.nodup_append] at n1
    obtain ⟨m1, m2, m3⟩ := n1
    rw [List.nodup_append] at m2
    obtain ⟨m4, m5, m6⟩ := m2
    refine List.nodup_append.2 ⟨m1, List.nodup_append.2 ⟨n2, m5, fun a ha b hb e => ?_⟩, fun a ha b hb => ?_⟩
    · exact n3 b (by simp [hb]) a ha e.symm
    · rcases List.mem_append.1 hb with hb | hb
      · exact n3 a (by simp [ha]) b hb
      · exact m3 a ha b (List.mem_append_right _ hb)
theorem handC_view {p : Pl} {v : V} {x : Value} (h : OwnC G w p v x) : OwnC G w p v.handC x := by
  by_cases hq : ∃ sz l, v = .uq sz l
  · obtain ⟨sz, l, rfl⟩ := hq; exact h
  · have e : v.handC = v.viewC := by cases v <;> first | rfl | exact absurd ⟨_, _, rfl⟩ hq
    rw [e]
    refine OwnC.of_view h.view fun sz l e => ?_
    cases v <;> first | (cases e; done) | skip
theorem hand_flat {v : V} (hv : v.hand.flat.all cellU = true) : v.hand.flat = v.flat.map V.handC := by
  cases v <;> first | rfl | (simp [V.hand, V.view, V.flat, cellU, pureC] at hv; done)
theorem getD_handC (l : List V) (i : Nat) : (l.map V.handC).getD i .undef = (l.getD i .undef).handC := by
  simp only [List.getD_eq_getElem?_getD, List.getElem?_map]
  cases l[i]? <;> rfl
theorem pureC_cellD {v : V} (h : pureC v = true) : cellD v = true := by
  unfold cellD
  split
  · rfl
  · exact h
def aruF (lv u : Nat) : Pl → Pl
  | .rs 0 _ => .cl lv u 0
  | p => p
/-- an operation without a value -/
def OpU (P : Program) (o : Oper) (G : Gh) (s : St) (a : Act) (w : World) (s1 : St) : Prop :=
  ∃ w' G', (execOp a.eval o).run P w = .ok .skip w' ∧ Rel G' s1 a w' ∧ Fr s.lv G w G' w'
theorem op_store {x y : Operand} {t : TypeId} {s1 : St} (h : Rel G s a w) (hv : uStore P s t y (s.see P 0 x) = some s1) : OpU P ⟨d, .store t x y, ty, pos, af, gd⟩ G s a w s1 := by
  have hx := h.see P 0 x
  unfold uStore at hv
  generalize s.see P 0 x = xv at hv hx
  have fin : ∀ {g off : Nat} {w' : World} {G' : Gh}, a.eval x = .pointer (some ⟨g, off, none⟩) → (storeVar t ⟨g, off, none⟩ (a.eval y)).run P w = .ok () w' → Rel G' s1 a w' → Fr s.lv G w G' w' → OpU P ⟨d, .store t x y, ty, pos, af, gd⟩ G s a w s1 := by
    intro g off w' G' e1 e2 e3 e4
    refine ⟨w', G', ?_, e3, e4⟩
    simp only [execOp, Instr.storeAt, e1, Instr.sureAddr, Sem.run_bind, Sem.run_pure, Result.andThen_ok, e2]
  split at hv
  · rename_i lv u off
    dsimp only at hv
    split at hv
    · rename_i cs ho
      split at hv
      · rename_i hc
        obtain ⟨hl, hb, hz, hok, _⟩ := hc
        obtain ⟨G1, h1, h2, h3, _, h5, h6⟩ := h.all P t y
        have hu : s.all P t y ≠ .undef := by rintro e; rw [e] at hok; cases hok
        have ht : ∀ l, s.all P t y ≠ .tup l := by intro l e; rw [e] at hok; cases hok
        have hs1 : s1 = (s.drop y).setOb lv u (.box (setL cs off (s.all P t y).flat)) := by
          split at hv
          · cases hv
          · cases hv
          · exact (Option.some.inj hv).symm
        subst hs1
        obtain ⟨q1, q2⟩ := (h2.toV ht).cells hu ht
        obtain ⟨g, hg, hxe⟩ := hx.ptr_inv
        rw [← h6] at hg
        obtain ⟨g', hg', hω, en, ety, hbk, hlen, hS, hT⟩ := h1.obj lv u _ (by rw [drop_ob]; exact ho)
        obtain rfl : g' = g := by rw [hg] at hg'; exact (Option.some.inj hg').symm
        have hsz : (a.eval y).cells.size = szOf P t := by omega
        have hone : ∀ z ∈ (a.eval y).cells.toList, z.oneCell' = true := by
          intro z hz'
          obtain ⟨j, hj, rfl⟩ := List.getElem_of_mem hz'
          have hj' : j < (s.all P t y).flat.length := by simp at hj; omega
          have := q2 j hj'
          have hc : cellOk ((s.all P t y).flat.getD j .undef) = true := by
            rw [List.all_eq_true] at hok
            refine hok _ ?_
            rw [List.getD_eq_getElem?_getD, List.getElem?_eq_getElem hj', Option.getD_some]
            exact List.getElem_mem hj'
          have := (this.one hc).2
          rw [getD_array_of (by simpa using hj)] at this
          simpa using this
        have hst := store_run (P := P) hz hbk hsz (off := off) (by omega) hone
        have hnew := setRow_heap w g' en (en.toList.take off ++ (a.eval y).cells.toList ++ en.toList.drop (off + szOf P t)).toArray ety _ hbk
        generalize hw' : w.setRow g' (en.toList.take off ++ (a.eval y).cells.toList ++ en.toList.drop (off + szOf P t)).toArray = w' at hst hnew
        have hoth : ∀ k, k ≠ g' → w'.heap[k]? = w.heap[k]? := fun k hk => by rw [← hw']; exact setRow_other w g' k _ hk
        have hws : w'.heap.size = w.heap.size := by rw [← hw']; simp
        have hlv : (s.drop y).lv = s.lv := drop_lv y
        refine fin hxe hst (h1.setOb (G' := G1.ren (putOF lv u off)) (by rw [drop_ob]; exact ho) hg hω (G1.ren_le _) rfl (fun k p hk hp hr hpk => ⟨hoth k hk, fun _ => rfl, ?_⟩) (fun k j c hc => ?_) (fun k p hp => by rw [hws]; exact ren_lim h1.lim k p hp) (by rw [ren_ω hω]; rfl) ?_) (h3.trans ⟨by rw [← hw']; rfl, by rw [← hw']; rfl, by rw [← hw']; rfl, by rw [hws]; exact Nat.le_refl _, fun k hk hm => ⟨hoth k (by rintro rfl; exact hm _ hω trivial), ?_, fun _ => rfl⟩, fun _ _ _ e => e, fun _ _ _ => rfl⟩)
        · rw [ren_ω hpk]
          cases p with
          | rs c j => exact absurd rfl (hr c j)
          | _ => rfl
        · have hkg : k ≠ g' := by rintro rfl; have : G1.S k j = some c := hc; rw [hS] at this; cases this
          have := h1.imm _ _ _ hc
          simp only [World.cell?, hoth k hkg]
          exact this
        · refine ⟨_, ety, hnew, ?_, hS, fun j hj => ?_⟩
          · rw [length_setL _ _ _ (by omega), size_row (by simp [hsz]) (by omega)]; exact hlen
          · rw [length_setL _ _ _ (by omega)] at hj
            rw [getD_setL _ _ _ _ (by omega), getD_row (by simp [hsz]) (by omega), hl]
            by_cases hin : off ≤ j ∧ j < off + szOf P t
            · rw [if_pos hin, if_pos hin]
              have := q2 (j - off) (by omega)
              have h8 := (this.ren (putOF lv u off) (p' := .cl lv u j) (by simp only [putOF]; congr 1; omega)).mono (G' := G1.ren (putOF lv u off)) (w' := w') (p' := .cl lv u j) ⟨fun _ _ _ e => e, fun _ _ _ e => e⟩ (fun k hk => ⟨hoth k (by
                rintro rfl
                have hω' := ren_ω (f := putOF lv u off) hω
                rw [hk] at hω'
                cases hω'), fun _ => rfl, hk⟩)
              simpa [List.getD_eq_getElem?_getD, Array.getD_eq_getD_getElem?] using h8
            · rw [if_neg hin, if_neg hin]
              exact (hT j hj).mono (G1.ren_le _) (fun k hk => ⟨hoth k (by rintro rfl; rw [hω] at hk; cases hk), fun _ => rfl, by rw [ren_ω hk]; rfl⟩)
        · cases hωk : G1.ω k with
          | none => simp [Gh.ren, hωk]
          | some p =>
            rw [ren_ω hωk]
            cases p with
            | rs c j => exact absurd trivial (hm _ hωk)
            | _ => rfl
      · cases hv
    · cases hv
  · rename_i lv u i sz
    split at hv
    · rename_i sz' l ho
      dsimp only at hv
      split at hv
      · rename_i hc
        obtain ⟨hsz, rfl, hfl, hz, hi, hcu⟩ := hc
        obtain rfl := Option.some.inj hv
        obtain ⟨G1, h1, h2, h3, _, h5, h6⟩ := h.all P t y
        have hhf := hand_flat hcu
        have hfl' : (s.all P t y).flat.length = sz' := by rw [hhf, List.length_map] at hfl; exact hfl
        have hu : s.all P t y ≠ .undef := by rintro e; rw [e] at hcu; cases hcu
        have ht : ∀ l, s.all P t y ≠ .tup l := by intro l e; rw [e] at hcu; cases hcu
        obtain ⟨q1, q2⟩ := (h2.toV ht).cells hu ht
        obtain ⟨g, hg, hxe⟩ := hx.eptr_inv
        rw [← h6] at hg
        obtain ⟨g', hg', hω, en, ety, bs, hbk, hlen, hs, hS, hbn, hbω, hD⟩ := h1.obj lv u _ (by rw [drop_ob]; exact ho)
        obtain rfl : g' = g := by rw [hg] at hg'; exact (Option.some.inj hg').symm
        have hszt : szOf P t ≠ 0 := by omega
        have hcz : (a.eval y).cells.size = szOf P t := by omega
        have hbd : i * sz' + sz' ≤ en.size := by
          rw [hlen]
          calc i * sz' + sz' = (i + 1) * sz' := by rw [Nat.succ_mul]
            _ ≤ l.length * sz' := Nat.mul_le_mul_right _ hi
        have q3 : ∀ j, j < (s.all P t y).hand.flat.length → OwnC G1 w (.rs 0 (0 + j)) ((s.all P t y).hand.flat.getD j .undef) ((a.eval y).cells.toList.getD j Go.undef) := fun j hj => by
          rw [hhf, List.length_map] at hj
          rw [hhf, getD_handC, Nat.zero_add]
          have := handC_view (q2 j hj)
          simpa [List.getD_eq_getElem?_getD, Array.getD_eq_getD_getElem?] using this
        obtain ⟨bv, v1, v2, v3⟩ := DTs.of_own (p := Pl.rs 0) (fun i j e => by injection e) (k := 0) (by simp; omega) hcu q3
        have hone : ∀ z ∈ (a.eval y).cells.toList, z.oneCell' = true := by
          intro z hz'
          obtain ⟨j, hj, rfl⟩ := List.getElem_of_mem hz'
          have hj' : j < (s.all P t y).hand.flat.length := by simp at hj; omega
          have h7 := q3 j hj'
          have hc : cellOk ((s.all P t y).hand.flat.getD j .undef) = true := by
            have h8 := List.all_eq_true.1 hcu _ (List.getElem_mem hj')
            rw [List.getD_eq_getElem?_getD, List.getElem?_eq_getElem hj', Option.getD_some]
            generalize (s.all P t y).hand.flat[j] = z at h8
            cases z <;> first | rfl | (cases h8; done)
          have := (h7.one hc).2
          rw [List.getD_eq_getElem?_getD, List.getElem?_eq_getElem hj] at this
          exact this
        have hst := store_run (P := P) hszt hbk hcz (off := i * sz') (by omega) hone
        have hnew := setRow_heap w g' en (en.toList.take (i * sz') ++ (a.eval y).cells.toList ++ en.toList.drop (i * sz' + szOf P t)).toArray ety _ hbk
        generalize hw' : w.setRow g' (en.toList.take (i * sz') ++ (a.eval y).cells.toList ++ en.toList.drop (i * sz' + szOf P t)).toArray = w' at hst hnew
        have hoth : ∀ k, k ≠ g' → w'.heap[k]? = w.heap[k]? := fun k hk => by rw [← hw']; exact setRow_other w g' k _ hk
        have hws : w'.heap.size = w.heap.size := by rw [← hw']; simp
        have hlv : (s.drop y).lv = s.lv := drop_lv y
        obtain ⟨bs', t1, t2, t3⟩ := hD.set hs hi v3
        have hdis : ∀ b ∈ bs, ∀ c ∈ bv, b ≠ c := fun b hb c hc e => by
          subst e
          obtain ⟨j, _, e⟩ := v2 b hc
          rw [hbω b hb] at e
          cases e
        have hng : ∀ b ∈ bs', b ≠ g' := fun b hb e => by
          subst e
          rcases t1 b hb with h8 | h8
          · rw [hbω b h8] at hω; cases hω
          · obtain ⟨j, _, e⟩ := v2 b h8
            rw [e] at hω; cases hω
        refine fin hxe hst (h1.setOb (G' := G1.ren (aruF lv u)) (by rw [drop_ob]; exact ho) hg hω (G1.ren_le _) rfl (fun k p hk hp hr hpk => ⟨hoth k hk, fun _ => rfl, ?_⟩) (fun k j c hc => ?_) (fun k p hp => by rw [hws]; exact ren_lim h1.lim k p hp) (by rw [ren_ω hω]; rfl) ?_) (h3.trans ⟨by rw [← hw']; rfl, by rw [← hw']; rfl, by rw [← hw']; rfl, by rw [hws]; exact Nat.le_refl _, fun k hk hm => ⟨hoth k (by rintro rfl; exact hm _ hω trivial), ?_, fun _ => rfl⟩, fun _ _ _ e => e, fun _ _ _ => rfl⟩)
        · rw [ren_ω hpk]
          cases p with
          | rs c j => exact absurd rfl (hr c j)
          | _ => rfl
        · have hkg : k ≠ g' := by rintro rfl; have : G1.S k j = some c := hc; rw [hS] at this; cases this
          have := h1.imm _ _ _ hc
          simp only [World.cell?, hoth k hkg]
          exact this
        · refine ⟨_, ety, bs', hnew, by rw [size_row (by simp [hcz]) (by omega), List.length_set]; exact hlen, fun z hz' => ?_, hS, t2 hbn v1 hdis, fun b hb => ?_, ?_⟩
          · rcases List.mem_or_eq_of_mem_set hz' with hz' | rfl
            · exact hs z hz'
            · exact hfl
          · rcases t1 b hb with h8 | h8
            · rw [ren_ω (hbω b h8)]; rfl
            · obtain ⟨j, _, e⟩ := v2 b h8
              rw [ren_ω e]; rfl
          · rw [← hsz, List.append_assoc]
            exact t3.mono (fun _ _ _ e => e) fun b hb => ⟨hoth b (hng b hb), fun _ => rfl⟩
        · cases hωk : G1.ω k with
          | none => simp [Gh.ren, hωk]
          | some p =>
            rw [ren_ω hωk]
            cases p with
            | rs c j => exact absurd trivial (hm _ hωk)
            | _ => rfl
      · cases hv
    · split at hv
      · rename_i v s2 htr
        split at hv
        · rename_i sz' l ho
          split at hv
          · rename_i hc
            obtain ⟨hsz, rfl, hfl, hz, hi⟩ := hc
            obtain rfl := Option.some.inj hv
            obtain ⟨G1, h1, h2, h3, h4, h5, h6⟩ := h.tree htr
            obtain ⟨g, hg, hxe⟩ := hx.eptr_inv
            have hg1 := h2.le.β _ _ _ hg
            obtain ⟨g', hg', hω, en, ety, hbk, hlen, hs, hT, hS⟩ := h1.obj lv u _ ho
            obtain rfl : g' = g := by rw [hg1] at hg'; exact (Option.some.inj hg').symm
            have hS' : ∀ j, G1.S g' j = none := hS
            obtain ⟨q1, q2⟩ := tr_cells h3 h5
            have hszt : szOf P t ≠ 0 := by omega
            have hcz : (a.eval y).cells.size = szOf P t := by omega
            have hbd : i * sz' + sz' ≤ en.size := by
              refine Nat.le_trans ?_ hlen
              calc i * sz' + sz' = (i + 1) * sz' := by rw [Nat.succ_mul]
                _ ≤ l.length * sz' := Nat.mul_le_mul_right _ hi
            have hone : ∀ z ∈ (a.eval y).cells.toList, z.oneCell' = true := by
              intro z hz'
              obtain ⟨j, hj, rfl⟩ := List.getElem_of_mem hz'
              have hj' : j < v.flat.length := by simp at hj; omega
              have h7 := q2 j hj'
              have h8 : pureC (v.flat.getD j .undef) = true := by
                rw [List.all_eq_true] at h4
                refine h4 _ ?_
                rw [List.getD_eq_getElem?_getD, List.getElem?_eq_getElem hj', Option.getD_some]
                exact List.getElem_mem hj'
              have := (cells_one h7 (by intro e; rw [e] at h8; cases h8) (by intro l e; rw [e] at h8; cases h8)).2
              rw [getD_array_of (by simpa using hj)] at this
              simpa using this
            have hst := store_run (P := P) hszt hbk hcz (off := i * sz') (by omega) hone
            have hnew := setRow_heap w g' en (en.toList.take (i * sz') ++ (a.eval y).cells.toList ++ en.toList.drop (i * sz' + szOf P t)).toArray ety _ hbk
            generalize hw' : w.setRow g' (en.toList.take (i * sz') ++ (a.eval y).cells.toList ++ en.toList.drop (i * sz' + szOf P t)).toArray = w' at hst hnew
            have hoth : ∀ k, k ≠ g' → w'.heap[k]? = w.heap[k]? := fun k hk => by rw [← hw']; exact setRow_other w g' k _ hk
            have hws : w'.heap.size = w.heap.size := by rw [← hw']; simp
            refine fin hxe hst (h1.setOb (G' := G1) ho hg1 hω (Le.refl _) rfl (fun k p hk hp hr hpk => ⟨hoth k hk, fun _ => rfl, hpk⟩) (fun k j c hc => ?_) (fun k p hp => by rw [hws]; exact h1.lim k p hp) hω ?_) (h2.fr.trans ⟨by rw [← hw']; rfl, by rw [← hw']; rfl, by rw [← hw']; rfl, by rw [hws]; exact Nat.le_refl _, fun k hk hm => ⟨hoth k (by rintro rfl; exact hm _ hω trivial), rfl, fun _ => rfl⟩, fun _ _ _ e => e, fun _ _ _ => rfl⟩)
            · have hkg : k ≠ g' := by rintro rfl; rw [hS'] at hc; cases hc
              have := h1.imm _ _ _ hc
              simp only [World.cell?, hoth k hkg]
              exact this
            · refine ⟨_, ety, hnew, by rw [size_row (by simp [hcz]) (by omega), List.length_set]; exact hlen, fun z hz' => ?_, fun p q hp hq => ?_, hS⟩
              · rcases List.mem_or_eq_of_mem_set hz' with hz' | rfl
                · exact hs z hz'
                · exact ⟨hfl, h4⟩
              · rw [List.length_set] at hp
                rw [getD_row (by simp [hcz]) (by omega)]
                by_cases hpi : p = i
                · subst hpi
                  have e1 : (l.set p v).getD p .undef = v := by simp [List.getD_eq_getElem?_getD, hp]
                  rw [if_pos (by omega), e1]
                  have := q2 q (by omega)
                  simpa [List.getD_eq_getElem?_getD, Array.getD_eq_getD_getElem?, show p * sz' + q - p * sz' = q by omega] using this
                · have e1 : (l.set i v).getD p .undef = l.getD p .undef := by simp [List.getD_eq_getElem?_getD, List.getElem?_set, Ne.symm hpi]
                  have hne : ¬ (i * sz' ≤ p * sz' + q ∧ p * sz' + q < i * sz' + szOf P t) := by
                    rintro ⟨a1, a2⟩
                    rcases Nat.lt_or_gt_of_ne hpi with hlt | hgt
                    · have := cell_lt hlt hq; omega
                    · have := Nat.mul_le_mul_right sz' (show i + 1 ≤ p from hgt)
                      rw [Nat.succ_mul] at this
                      omega
                  rw [if_neg hne, e1]
                  exact hT p q hp hq
          · cases hv
        · rename_i sz' l ho
          split at hv
          · rename_i hc
            obtain ⟨hsz, rfl, hfl, hz, hi⟩ := hc
            obtain rfl := Option.some.inj hv
            obtain ⟨G1, h1, h2, h3, h4, h5, h6⟩ := h.tree htr
            obtain ⟨g, hg, hxe⟩ := hx.eptr_inv
            have hg1 := h2.le.β _ _ _ hg
            obtain ⟨g', hg', hω, en, ety, hbk, hlen, hs, hT, hS⟩ := h1.obj lv u _ ho
            obtain rfl : g' = g := by rw [hg1] at hg'; exact (Option.some.inj hg').symm
            have hS' : ∀ j, G1.S g' j = none := hS
            obtain ⟨q1, q2⟩ := tr_cells h3 h5
            have hszt : szOf P t ≠ 0 := by omega
            have hcz : (a.eval y).cells.size = szOf P t := by omega
            have hbd : i * sz' + sz' ≤ en.size := by
              refine Nat.le_trans ?_ hlen
              calc i * sz' + sz' = (i + 1) * sz' := by rw [Nat.succ_mul]
                _ ≤ l.length * sz' := Nat.mul_le_mul_right _ hi
            have hone : ∀ z ∈ (a.eval y).cells.toList, z.oneCell' = true := by
              intro z hz'
              obtain ⟨j, hj, rfl⟩ := List.getElem_of_mem hz'
              have hj' : j < v.flat.length := by simp at hj; omega
              have h7 := q2 j hj'
              have h8 : pureC (v.flat.getD j .undef) = true := by
                rw [List.all_eq_true] at h4
                refine h4 _ ?_
                rw [List.getD_eq_getElem?_getD, List.getElem?_eq_getElem hj', Option.getD_some]
                exact List.getElem_mem hj'
              have := (cells_one h7 (by intro e; rw [e] at h8; cases h8) (by intro l e; rw [e] at h8; cases h8)).2
              rw [getD_array_of (by simpa using hj)] at this
              simpa using this
            have hst := store_run (P := P) hszt hbk hcz (off := i * sz') (by omega) hone
            have hnew := setRow_heap w g' en (en.toList.take (i * sz') ++ (a.eval y).cells.toList ++ en.toList.drop (i * sz' + szOf P t)).toArray ety _ hbk
            generalize hw' : w.setRow g' (en.toList.take (i * sz') ++ (a.eval y).cells.toList ++ en.toList.drop (i * sz' + szOf P t)).toArray = w' at hst hnew
            have hoth : ∀ k, k ≠ g' → w'.heap[k]? = w.heap[k]? := fun k hk => by rw [← hw']; exact setRow_other w g' k _ hk
            have hws : w'.heap.size = w.heap.size := by rw [← hw']; simp
            refine fin hxe hst (h1.setOb (G' := G1) ho hg1 hω (Le.refl _) rfl (fun k p hk hp hr hpk => ⟨hoth k hk, fun _ => rfl, hpk⟩) (fun k j c hc => ?_) (fun k p hp => by rw [hws]; exact h1.lim k p hp) hω ?_) (h2.fr.trans ⟨by rw [← hw']; rfl, by rw [← hw']; rfl, by rw [← hw']; rfl, by rw [hws]; exact Nat.le_refl _, fun k hk hm => ⟨hoth k (by rintro rfl; exact hm _ hω trivial), rfl, fun _ => rfl⟩, fun _ _ _ e => e, fun _ _ _ => rfl⟩)
            · have hkg : k ≠ g' := by rintro rfl; rw [hS'] at hc; cases hc
              have := h1.imm _ _ _ hc
              simp only [World.cell?, hoth k hkg]
              exact this
            · refine ⟨_, ety, hnew, by rw [size_row (by simp [hcz]) (by omega), List.length_set]; exact hlen, fun z hz' => ?_, fun p q hp hq => ?_, hS⟩
              · rcases List.mem_or_eq_of_mem_set hz' with hz' | rfl
                · exact hs z hz'
                · exact ⟨hfl, List.all_eq_true.2 fun u hu => pureC_cellD (List.all_eq_true.1 h4 u hu)⟩
              · rw [List.length_set] at hp
                rw [getD_row (by simp [hcz]) (by omega)]
                by_cases hpi : p = i
                · subst hpi
                  have e1 : (l.set p v).getD p .undef = v := by simp [List.getD_eq_getElem?_getD, hp]
                  rw [if_pos (by omega), e1]
                  have := q2 q (by omega)
                  simpa [List.getD_eq_getElem?_getD, Array.getD_eq_getD_getElem?, show p * sz' + q - p * sz' = q by omega] using this
                · have e1 : (l.set i v).getD p .undef = l.getD p .undef := by simp [List.getD_eq_getElem?_getD, List.getElem?_set, Ne.symm hpi]
                  have hne : ¬ (i * sz' ≤ p * sz' + q ∧ p * sz' + q < i * sz' + szOf P t) := by
                    rintro ⟨a1, a2⟩
                    rcases Nat.lt_or_gt_of_ne hpi with hlt | hgt
                    · have := cell_lt hlt hq; omega
                    · have := Nat.mul_le_mul_right sz' (show i + 1 ≤ p from hgt)
                      rw [Nat.succ_mul] at this
                      omega
                  rw [if_neg hne, e1]
                  exact hT p q hp hq
          · cases hv
        · cases hv
      · cases hv
  · cases hv
end Go.Ev
namespace Go.Ev
open Go
set_option linter.unusedVariables false
set_option linter.unusedSimpArgs false
variable {P : Program} {G : Gh} {s : St} {a : Act} {w : World} {o : Oper}
variable {d : Option Nat} {ty : TypeId} {pos : String} {af : Array Edge} {gd : Option (Nat × Bool)}

def extF (lv u i : Nat) : Pl → Pl
  | .tm l t c j => if l = lv ∧ t = u ∧ c = i then .rs 0 j else .tm l t c j
  | p => p
theorem OwnV.tup {p : Nat → Pl} {m : List V} {x : Value} (h : OwnV G w p (.tup m) x) : False := OwnC.tup (w := w) (p := p 0) h
theorem op_extract {u i : Nat} {l : List V} {v : V} (h : Rel G s a w) (hu : s.t u = .tup l) (hv : l[i]? = some v) : OpOk P ⟨d, .extract (.tmp u) i, ty, pos, af, gd⟩ G s a w v (s.put u (.tup (l.set i .undef))) := by
  have h1 := h.slot u
  rw [hu] at h1
  obtain ⟨vs, hx, hl, hT⟩ := h1
  have hi : i < l.length := by
    rcases Nat.lt_or_ge i l.length with h' | h'
    · exact h'
    · rw [List.getElem?_eq_none h'] at hv; cases hv
  have hiv : i < vs.size := by omega
  have hvi : l.getD i .undef = v := by rw [List.getD_eq_getElem?_getD, hv]; rfl
  have h2 := hT i hi
  rw [hvi] at h2
  have h3 : OwnV (G.ren (extF s.lv u i)) w (Pl.rs 0) v (vs.getD i Go.undef) := h2.ren _ fun j => by simp [extF]
  refine ⟨vs.getD i Go.undef, w, G.ren (extF s.lv u i), ?_, ⟨h.size, h.defers, fun t => ?_, fun lv t ob hob => ?_, h.dom, h.imm, ren_lim h.lim⟩, OwnV.toS h3 (fun m e => by rw [e] at h3; exact h3.tup), ren_fr fun p => ?_⟩
  · simp only [execOp, Act.eval, hx]
    refine run_val ?_
    simp [Instr.extract, hiv, Array.getD]
  · by_cases ht : t = u
    · subst ht
      have : (s.put t (.tup (l.set i .undef))).t t = .tup (l.set i .undef) := by simp [St.put, upd]
      rw [this]
      refine ⟨vs, hx, by simpa using hl, fun k hk => ?_⟩
      rw [List.length_set] at hk
      by_cases hki : k = i
      · subst hki
        have : (l.set k .undef).getD k .undef = .undef := by simp [List.getD_eq_getElem?_getD, hk]
        rw [this]
        exact Tr.undef _
      · have : (l.set i .undef).getD k .undef = l.getD k .undef := by simp [List.getD_eq_getElem?_getD, List.getElem?_set, Ne.symm hki]
        rw [this]
        exact (hT k hk).ren _ fun j => by
          have : (St.put s t (.tup (l.set i .undef))).lv = s.lv := rfl
          simp [extF, hki, this]
    · have : (s.put u (.tup (l.set i .undef))).t t = s.t t := by simp [St.put, upd, ht]
      rw [this]
      exact (h.slot t).ren _ fun c j => by
        have : (St.put s u (.tup (l.set i .undef))).lv = s.lv := rfl
        simp [extF, ht, this]
  · obtain ⟨g, k1, k2, k3⟩ := h.obj lv t ob hob
    exact ⟨g, k1, by rw [ren_ω k2]; rfl, k3.ren _ fun j => rfl⟩
  · cases p with
    | tm l' t c j =>
      by_cases hh : l' = s.lv ∧ t = u ∧ c = i
      · exact .inr (by rw [hh.1]; exact Nat.le_refl _)
      · exact .inl (by simp [extF, hh])
    | _ => exact .inl rfl

theorem op_extractC {u i : Nat} {l : List V} {v : V} (h : Rel G s a w) (hu : s.t u = .tup l) (hv : l[i]? = some v) : OpOk P ⟨d, .extract (.tmp u) i, ty, pos, af, gd⟩ G s a w v (s.put u (.tup (l.map V.view))) := by
  have h1 := h.slot u
  rw [hu] at h1
  obtain ⟨vs, hx, hl, hT⟩ := h1
  have hi : i < l.length := by
    rcases Nat.lt_or_ge i l.length with h' | h'
    · exact h'
    · rw [List.getElem?_eq_none h'] at hv; cases hv
  have hiv : i < vs.size := by omega
  have hvi : l.getD i .undef = v := by rw [List.getD_eq_getElem?_getD, hv]; rfl
  have h2 := hT i hi
  rw [hvi] at h2
  have h3 : OwnV (G.ren (extF s.lv u i)) w (Pl.rs 0) v (vs.getD i Go.undef) := h2.ren _ fun j => by simp [extF]
  refine ⟨vs.getD i Go.undef, w, G.ren (extF s.lv u i), ?_, ⟨h.size, h.defers, fun t => ?_, fun lv t ob hob => ?_, h.dom, h.imm, ren_lim h.lim⟩, OwnV.toS h3 (fun m e => by rw [e] at h3; exact h3.tup), ren_fr fun p => ?_⟩
  · simp only [execOp, Act.eval, hx]
    refine run_val ?_
    simp [Instr.extract, hiv, Array.getD]
  · by_cases ht : t = u
    · subst ht
      have : (s.put t (.tup (l.map V.view))).t t = .tup (l.map V.view) := by simp [St.put, upd]
      rw [this]
      refine ⟨vs, hx, by simpa using hl, fun k hk => ?_⟩
      rw [List.length_map] at hk
      have h4 := hT k hk
      have e4 : (l.map V.view).getD k .undef = (l.getD k .undef).view := by
        rw [List.getD_eq_getElem?_getD, List.getD_eq_getElem?_getD, List.getElem?_map, List.getElem?_eq_getElem hk]
        rfl
      rw [e4]
      exact OwnV.of_tr (h4.view fun m e => by rw [e] at h4; exact h4.tup) (V.view_view _)
    · have : (s.put u (.tup (l.map V.view))).t t = s.t t := by simp [St.put, upd, ht]
      rw [this]
      exact (h.slot t).ren _ fun c j => by
        have : (St.put s u (.tup (l.map V.view))).lv = s.lv := rfl
        simp [extF, ht, this]
  · obtain ⟨g, k1, k2, k3⟩ := h.obj lv t ob hob
    exact ⟨g, k1, by rw [ren_ω k2]; rfl, k3.ren _ fun j => rfl⟩
  · cases p with
    | tm l' t c j =>
      by_cases hh : l' = s.lv ∧ t = u ∧ c = i
      · exact .inr (by rw [hh.1]; exact Nat.le_refl _)
      · exact .inl (by simp [extF, hh])
    | _ => exact .inl rfl

theorem getD_fold {off : Nat} {v cs : Array Value} (h : off + v.size ≤ cs.size) : (v.zipIdx.foldl (fun cs (x : Value × Nat) => cs.setIfInBounds (off + x.2) x.1) cs).size = cs.size ∧ ∀ k, (v.zipIdx.foldl (fun cs (x : Value × Nat) => cs.setIfInBounds (off + x.2) x.1) cs).getD k Go.undef = if off ≤ k ∧ k < off + v.size then v.getD (k - off) Go.undef else cs.getD k Go.undef := by
  have e : v.zipIdx.foldl (fun cs (x : Value × Nat) => cs.setIfInBounds (off + x.2) x.1) cs = (v.toList.zipIdx 0).foldl (fun cs (x : Value × Nat) => cs.setIfInBounds (off + x.2) x.1) cs := by
    rw [← Array.foldl_toList, Array.toList_zipIdx]
  rw [e]
  obtain ⟨h1, h2⟩ := Great.foldl_set off v.toList 0 cs
  refine ⟨h1, fun k => ?_⟩
  rw [Array.getD_eq_getD_getElem?, h2 k, Nat.add_zero, Array.length_toList]
  by_cases hk : off ≤ k ∧ k < off + v.size
  · rw [if_pos ⟨hk.1, hk.2, by omega⟩, if_pos hk]
    simp [Array.getD_eq_getD_getElem?]
  · rw [if_neg (fun e => hk ⟨e.1, e.2.1⟩), if_neg hk]
    simp [Array.getD_eq_getD_getElem?]
def accF (off : Nat) : Pl → Pl
  | .rs 0 j => .rs 1 (off + j)
  | p => p
theorem Rel.ren_rs (h : Rel G s a w) (f : Pl → Pl) (hf : ∀ p, (∀ c j, p ≠ .rs c j) → f p = p) : Rel (G.ren f) s a w ∧ Fr s.lv G w (G.ren f) w := by
  refine ⟨⟨h.size, h.defers, fun t => (h.slot t).ren _ fun c j => hf _ (fun _ _ e => by cases e), fun lv t ob hob => ?_, h.dom, h.imm, ren_lim h.lim⟩, ren_fr fun p => ?_⟩
  · obtain ⟨g, k1, k2, k3⟩ := h.obj lv t ob hob
    exact ⟨g, k1, by rw [ren_ω k2, hf _ (fun _ _ e => by cases e)], k3.ren _ fun j => hf _ (fun _ _ e => by cases e)⟩
  · cases p with
    | rs c j => exact .inr trivial
    | _ => exact .inl (hf _ (fun _ _ e => by cases e))
theorem buildF_spec (fs : Array Field) (places : List (Nat × Nat)) (hp : ∀ (i : Nat) (f : Field), fs[i]? = some f → places.toArray[i]? = some (f.offset, szOf P f.type)) : ∀ (ps : List (Nat × Operand)) {G : Gh} {s s1 : St} {cs cs1 : List V} {ccs : Array Value}, Rel G s a w → cs.length = ccs.size →
    (∀ j, j < cs.length → OwnC G w (.rs 1 j) (cs.getD j .undef) (ccs.getD j Go.undef)) → buildF P fs s cs ps = some (cs1, s1) →
    ∃ ccs1 G1, Instr.fill (places.toArray[·]?) ccs (ps.map fun p => (p.1, a.eval p.2)) = some ccs1 ∧ Rel G1 s1 a w ∧ Fr s.lv G w G1 w ∧ s1.lv = s.lv ∧ cs1.length = ccs1.size ∧ ∀ j, j < cs1.length → OwnC G1 w (.rs 1 j) (cs1.getD j .undef) (ccs1.getD j Go.undef) := by
  intro ps
  induction ps with
  | nil =>
    intro G s s1 cs cs1 ccs h hl hc hb
    simp only [buildF, Option.some.injEq, Prod.mk.injEq] at hb
    obtain ⟨rfl, rfl⟩ := hb
    exact ⟨ccs, G, rfl, h, Fr.refl _ _ _, rfl, hl, hc⟩
  | cons p ps ih =>
    intro G s s1 cs cs1 ccs h hl hc hb
    obtain ⟨i, x⟩ := p
    simp only [buildF] at hb
    split at hb
    · rename_i f hf
      split at hb
      · rename_i hsz
        obtain ⟨hn, hle⟩ := hsz
        obtain ⟨G1, h1, h2, h3, h4, h5, h6⟩ := h.all P f.type x
        have hvv : s.all P f.type x ≠ .undef ∧ (∀ l, s.all P f.type x ≠ .tup l) ∧ buildF P fs (s.drop x) (setL cs f.offset (s.all P f.type x).flat) ps = some (cs1, s1) := by
          split at hb
          · cases hb
          · cases hb
          · rename_i h7 h8
            exact ⟨fun e => h8 e, fun l e => h7 l e, hb⟩
        obtain ⟨hu, ht, hb⟩ := hvv
        obtain ⟨q1, q2⟩ := (h2.toV ht).cells hu ht
        obtain ⟨r1, r2⟩ := h1.ren_rs (accF f.offset) (fun p hp => by cases p <;> first | rfl | exact absurd rfl (hp _ _))
        have hcs : (a.eval x).cells.size = szOf P f.type := by omega
        have hf2 := getD_fold (off := f.offset) (v := (a.eval x).cells) (cs := ccs) (by omega)
        obtain ⟨ccs1, G2, k1, k2, k3, k4, k5, k6⟩ := ih (ccs := (a.eval x).cells.zipIdx.foldl (fun cs (x : Value × Nat) => cs.setIfInBounds (f.offset + x.2) x.1) ccs) r1 (by rw [length_setL _ _ _ hle, hf2.1]; exact hl) (fun j hj => by
          rw [length_setL _ _ _ hle] at hj
          rw [getD_setL _ _ _ _ hle, hf2.2 j, hcs, hn]
          by_cases hin : f.offset ≤ j ∧ j < f.offset + szOf P f.type
          · rw [if_pos hin, if_pos hin]
            exact (q2 (j - f.offset) (by omega)).ren _ (by simp only [accF]; congr 1; omega)
          · rw [if_neg hin, if_neg hin]
            refine (hc j hj).mono (p' := .rs 1 j) ⟨fun g i c e => by show G1.S g i = some c; rw [h5]; exact e, fun l t g e => by show G1.β l t = some g; rw [h6]; exact e⟩ (fun g hg => ⟨rfl, fun i => by show G1.S g i = _; rw [h5], ?_⟩)
            rw [ren_ω (h4 _ _ _ hg)]; rfl) hb
        refine ⟨ccs1, G2, ?_, k2, ?_, k4.trans (drop_lv x), k5, k6⟩
        · simp only [List.map_cons, Instr.fill]
          rw [hp i f hf]
          simp only
          have : ((a.eval x).cells.size ≠ szOf P f.type || decide (f.offset + (a.eval x).cells.size > ccs.size)) = false := by
            simp only [ne_eq, hcs, not_true_eq_false, decide_false, Bool.false_or, decide_eq_false_iff_not]
            omega
          rw [if_neg (by rw [this]; simp)]
          exact k1
        · have := k3
          rw [drop_lv] at this r2
          exact (h3.trans r2).trans this
      · cases hb
    · cases hb
theorem places_ok (fs : List Field) (h : fs.all (fun f => szOf P f.type != 0) = true) : ∃ places, fs.mapM (fun f => (P.info? f.type).map fun i => (f.offset, i.size)) = some places ∧ ∀ (i : Nat) (f : Field), fs[i]? = some f → places[i]? = some (f.offset, szOf P f.type) := by
  induction fs with
  | nil => exact ⟨[], rfl, fun i f hf => by cases hf⟩
  | cons f fs ih =>
    simp only [List.all_cons, Bool.and_eq_true, bne_iff_ne, ne_eq] at h
    obtain ⟨places, h1, h2⟩ := ih h.2
    obtain ⟨i, d, g1, g2, g3, g4⟩ := szOf_ne h.1
    refine ⟨(f.offset, i.size) :: places, by simp [List.mapM_cons, g1, h1], fun k f' hf => ?_⟩
    cases k with
    | zero => simp only [List.getElem?_cons_zero, Option.some.injEq] at hf ⊢; subst hf; rw [g3]
    | succ k => exact h2 k f' (by simpa using hf)
def finF : Pl → Pl
  | .rs 1 j => .rs 0 j
  | .rs 0 j => .rs 2 j
  | p => p
theorem op_build {t : TypeId} {fs : Array Field} {z cs1 : List V} {ps : Array (Nat × Operand)} {s1 : St} (h : Rel G s a w) (hu : P.underlying t = some (.struct fs)) (hz : zero P t = some z) (hf : fs.toList.all (fun f => szOf P f.type != 0) = true)
    (hb : buildF P fs s z ps.toList = some (cs1, s1)) : OpOk P ⟨d, .build t ps, ty, pos, af, gd⟩ G s a w (.agg cs1) s1 := by
  obtain ⟨places, p1, p2⟩ := places_ok fs.toList hf
  obtain ⟨zv, z1, z2, z3, _⟩ := zero_spec hz
  obtain ⟨ccs1, G1, k1, k2, k3, k4, k5, k6⟩ := buildF_spec (P := P) (w := w) fs places (fun i f hf => by have := p2 i f (by simpa using hf); simpa using this) ps.toList h z2 (fun j hj => agree_tr (z3 j hj) _) hb
  obtain ⟨r1, r2⟩ := k2.ren_rs finF (fun p hp => by cases p <;> first | rfl | exact absurd rfl (hp _ _))
  rw [k4] at r2
  refine ⟨.agg ccs1, w, G1.ren finF, ?_, r1, ⟨ccs1, rfl, k5, fun j hj => (k6 j hj).ren _ rfl⟩, k3.trans r2⟩
  simp only [execOp]
  refine run_val ?_
  obtain ⟨it, hit, hzi⟩ : ∃ it, P.info? t = some it ∧ it.zero = some zv := by
    have := z1 default
    simp only [zeroValue, Sem.run_bind, typeInfo, run_program, Result.andThen_ok] at this
    cases hh : P.info? t with
    | none => simp [hh] at this
    | some it =>
      simp only [hh, Sem.run_pure, Result.andThen_ok] at this
      cases hh2 : it.zero with
      | none => simp [hh2] at this
      | some y => simp [hh2] at this; exact ⟨it, rfl, by rw [hh2, this]⟩
  refine run_build w t _ ccs1 ?_
  unfold Program.built
  simp only [hit, hu, hzi, p1]
  rw [← k1]
  congr 1
  simp
theorem op_buildArray {t e : TypeId} {n : Nat} {z : List V} {ps : Array (Nat × Operand)} {vs : List V} {s1 : St} (h : Rel G s a w) (hu : P.underlying t = some (.array n e)) (hz : zero P t = some z) (hsz : szOf P e ≠ 0) (hzl : z.length = n * szOf P e) (ho : inOrder 0 ps.toList = true) (hn : ps.size ≤ n)
    (ht : St.trees P s (ps.toList.map fun p => (e, p.2)) = some (vs, s1)) (hf : vs.all (fun v => v.flat.length == szOf P e) = true) : OpOk P ⟨d, .build t ps, ty, pos, af, gd⟩ G s a w (.agg ((vs.map V.flat).flatten ++ (z.drop (vs.length * szOf P e)).map V.viewC)) s1 := by
  obtain ⟨G1, h1, h2, h3, h4, h5, h6⟩ := parts_laid (t := t) (n := n) h hsz ht hf
  obtain ⟨zv, z1, z2, z3, _⟩ := zero_spec hz
  obtain ⟨it, hit, hzi⟩ : ∃ it, P.info? t = some it ∧ it.zero = some zv := by
    have := z1 default
    simp only [zeroValue, Sem.run_bind, typeInfo, run_program, Result.andThen_ok] at this
    cases hh : P.info? t with
    | none => simp [hh] at this
    | some it =>
      simp only [hh, Sem.run_pure, Result.andThen_ok] at this
      cases hh2 : it.zero with
      | none => simp [hh2] at this
      | some y => simp [hh2] at this; exact ⟨it, rfl, by rw [hh2, this]⟩
  obtain ⟨ie, d', g1, g2, g3, g4⟩ := szOf_ne hsz
  have hflat : ∀ (l : List V), (∀ v ∈ l, v.flat.length = szOf P e) → ((l.map V.flat).flatten.length = l.length * szOf P e ∧ ∀ i j, i < l.length → j < szOf P e → (l.map V.flat).flatten.getD (i * szOf P e + j) .undef = (l.getD i .undef).flat.getD j .undef) := by
    intro l
    induction l with
    | nil => intro _; exact ⟨by simp, fun i j hi => absurd hi (Nat.not_lt_zero _)⟩
    | cons v l ih =>
      intro hv
      obtain ⟨i1, i2⟩ := ih (fun v hv' => hv v (List.mem_cons_of_mem _ hv'))
      have hv0 := hv v List.mem_cons_self
      refine ⟨by simp only [List.map_cons, List.flatten_cons, List.length_append, i1, hv0, List.length_cons, Nat.succ_mul]; omega, fun i j hi hj => ?_⟩
      simp only [List.map_cons, List.flatten_cons, List.getD_eq_getElem?_getD]
      cases i with
      | zero => rw [Nat.zero_mul, Nat.zero_add, List.getElem?_append_left (by omega)]; rfl
      | succ i =>
        rw [List.getElem?_append_right (by rw [Nat.succ_mul]; omega), show (i + 1) * szOf P e + j - v.flat.length = i * szOf P e + j by rw [Nat.succ_mul]; omega]
        have := i2 i j (by simpa using hi) hj
        simpa [List.getD_eq_getElem?_getD] using this
  have hall : ∀ v ∈ vs, v.flat.length = szOf P e := fun v hv => by rw [List.all_eq_true] at hf; simpa using hf v hv
  obtain ⟨f1, f2⟩ := hflat vs hall
  have hvl : vs.length = ps.size := h3
  have hpos : 0 < szOf P e := by omega
  have hmul : vs.length * szOf P e ≤ n * szOf P e := Nat.mul_le_mul_right _ (by omega)
  obtain ⟨r, hr, hrs, hrk⟩ := Great.fill_dense hpos (ps.toList.map fun p => a.eval p.2) 0 zv.cells h5 (by simp only [Nat.zero_add, List.length_map, Array.length_toList]; rw [← z2, hzl]; exact Nat.mul_le_mul_right _ hn)
  simp only [Nat.zero_add, List.length_map, Array.length_toList, Nat.zero_mul, Nat.sub_zero, Nat.zero_le, true_and] at hrk
  have hrl : r.size = n * szOf P e := by rw [hrs, ← z2, hzl]
  have hdl : ((vs.map V.flat).flatten ++ (z.drop (vs.length * szOf P e)).map V.viewC).length = n * szOf P e := by
    rw [List.length_append, f1, List.length_map, List.length_drop, hzl]; omega
  refine ⟨.agg r, w, G1, ?_, h1, OwnS.of_tr' (Tr.agg _ _ (by rw [hdl, hrl]) fun k hk => ?_), h2.fr⟩
  · simp only [execOp]
    refine run_val ?_
    refine run_build w t _ _ ?_
    unfold Program.built
    simp only [hit, hu, hzi, g1]
    have hparts : (ps.map fun (i, x) => (i, a.eval x)).toList = ((ps.toList.map fun p => a.eval p.2).zipIdx 0).map fun x => (x.2, x.1) := by
      rw [Array.toList_map]
      exact inOrder_zip a.eval ps.toList 0 ho
    rw [hparts, ← g3]
    exact hr
  · rw [hdl] at hk
    have hrg := hrk k
    by_cases hin : k < vs.length * szOf P e
    · rw [if_pos (by rw [← hvl]; exact hin)] at hrg
      have d1 : k / szOf P e < vs.length := Nat.div_lt_of_lt_mul (by rw [Nat.mul_comm]; exact hin)
      have d2 : k % szOf P e < szOf P e := Nat.mod_lt _ hpos
      have d3 : k / szOf P e * szOf P e + k % szOf P e = k := by have := Nat.div_add_mod k (szOf P e); rw [Nat.mul_comm] at this; exact this
      have e1 := f2 _ _ d1 d2
      rw [d3] at e1
      have e0 : ((vs.map V.flat).flatten ++ (z.drop (vs.length * szOf P e)).map V.viewC).getD k .undef = (vs.map V.flat).flatten.getD k .undef := by
        rw [List.getD_eq_getElem?_getD, List.getD_eq_getElem?_getD, List.getElem?_append_left (by rw [f1]; exact hin)]
      rw [e0, e1]
      have := h4.2.2 _ _ d1 d2
      rw [d3] at this
      have e2 : r.getD k undef = (((ps.toList.map fun p => a.eval p.2).flatMap fun v => v.cells.toList).toArray).getD k undef := by
        rw [Array.getD_eq_getD_getElem?, Array.getD_eq_getD_getElem?, hrg, List.getElem?_toArray, Great.flat_get hpos _ h5]
      rw [e2]
      exact this
    · rw [if_neg (by rw [← hvl]; exact hin)] at hrg
      have e0 : ((vs.map V.flat).flatten ++ (z.drop (vs.length * szOf P e)).map V.viewC).getD k .undef = (z.getD k .undef).viewC := by
        rw [List.getD_eq_getElem?_getD, List.getElem?_append_right (by rw [f1]; omega), f1, List.getElem?_map, List.getElem?_drop, List.getD_eq_getElem?_getD]
        have : vs.length * szOf P e + (k - vs.length * szOf P e) = k := by omega
        rw [this]
        cases z[k]? <;> rfl
      rw [e0]
      have e2 : r.getD k undef = zv.cells.getD k undef := by
        rw [Array.getD_eq_getD_getElem?, Array.getD_eq_getD_getElem?, hrg]
      rw [e2]
      exact (agree_tr (G := G1) (w := w) (z3 k (by rw [hzl]; exact hk)) (.rs 0 0)).view
end Go.Ev
