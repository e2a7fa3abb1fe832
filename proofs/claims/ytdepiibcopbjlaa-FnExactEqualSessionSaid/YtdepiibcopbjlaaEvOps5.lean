/- Objects that change: variables in memory, rows that are written. -/
import Derived.Test.YtdepiibcopbjlaaEvOps4
namespace Go.Ev
open Go
set_option linter.unusedVariables false
set_option linter.unusedSimpArgs false
variable {P : Program} {G : Gh} {s : St} {a : Act} {w : World} {o : Oper}
variable {d : Option Nat} {ty : TypeId} {pos : String} {af : Array Edge} {gd : Option (Nat × Bool)}

theorem setIn_length (t : Nat) (ob : Ob) (lv : Nat) : ∀ o : List (Nat → Option Ob), (setIn t ob lv o).length = o.length := by
  intro o
  induction o with
  | nil => rfl
  | cons f o ih => simp only [setIn]; split <;> simp [ih]
theorem obIn_setIn (t : Nat) (ob : Ob) (lv : Nat) : ∀ (o : List (Nat → Option Ob)) (t' lv' : Nat), (∃ x, obIn t lv o = some x) → obIn t' lv' (setIn t ob lv o) = if lv' = lv ∧ t' = t then some ob else obIn t' lv' o := by
  intro o
  induction o with
  | nil => intro t' lv' h; obtain ⟨x, hx⟩ := h; cases hx
  | cons f o ih =>
    intro t' lv' h
    simp only [setIn]
    by_cases h1 : lv = o.length
    · rw [if_pos h1]
      simp only [obIn]
      by_cases h2 : lv' = o.length
      · rw [if_pos h2, if_pos h2]
        by_cases h3 : t' = t
        · simp [upd, h3, h1, h2]
        · simp [upd, h3]
      · rw [if_neg h2, if_neg h2]
        rw [if_neg (fun e => h2 (e.1.trans h1))]
    · rw [if_neg h1]
      simp only [obIn, setIn_length]
      by_cases h2 : lv' = o.length
      · rw [if_pos h2, if_pos h2, if_neg (fun e => h1 (e.1.symm.trans h2))]
      · rw [if_neg h2, if_neg h2]
        refine ih t' lv' ?_
        obtain ⟨x, hx⟩ := h
        simp only [obIn, if_neg h1] at hx
        exact ⟨x, hx⟩
theorem setOb_lv (lv u : Nat) (ob : Ob) : (s.setOb lv u ob).lv = s.lv := by
  unfold St.setOb St.lv
  split
  · rfl
  · exact setIn_length _ _ _ _
theorem setOb_t (lv u : Nat) (ob : Ob) : (s.setOb lv u ob).t = s.t := by unfold St.setOb; split <;> rfl
theorem setOb_n (lv u : Nat) (ob : Ob) : (s.setOb lv u ob).n = s.n := by unfold St.setOb; split <;> rfl
theorem ob_setOb {lv u : Nat} {old : Ob} (h : s.ob lv u = some old) (ob : Ob) (lv' t' : Nat) : (s.setOb lv u ob).ob lv' t' = if lv' = lv ∧ t' = u then some ob else s.ob lv' t' := by
  unfold St.setOb
  unfold St.ob at h ⊢
  by_cases h1 : lv = s.o.length
  · rw [if_pos h1]
    simp only [obIn]
    by_cases h2 : lv' = s.o.length
    · rw [if_pos h2, if_pos h2]
      by_cases h3 : t' = u
      · simp [upd, h3, h1, h2]
      · simp [upd, h3]
    · rw [if_neg h2, if_neg h2, if_neg (fun e => h2 (e.1.trans h1))]
  · rw [if_neg h1]
    simp only [obIn, setIn_length]
    by_cases h2 : lv' = s.o.length
    · rw [if_pos h2, if_pos h2, if_neg (fun e => h1 (e.1.symm.trans h2))]
    · rw [if_neg h2, if_neg h2]
      refine obIn_setIn u ob lv s.o t' lv' ⟨old, ?_⟩
      simpa only [obIn, if_neg h1] using h
/-- an object has turned; what else was said stands -/
theorem Rel.setOb {G G' : Gh} {w w' : World} (h : Rel G s a w) {lv u g : Nat} {old ob : Ob} (ho : s.ob lv u = some old) (hg : G.β lv u = some g) (hgo : G.ω g = some (.ob lv u)) (hle : Le G G') (hβ : G'.β = G.β)
    (hs : ∀ k p, k ≠ g → (∀ j, p ≠ .cl lv u j) → (∀ c j, p ≠ .rs c j) → G.ω k = some p → w'.heap[k]? = w.heap[k]? ∧ (∀ j, G'.S k j = G.S k j) ∧ G'.ω k = some p)
    (himm : ∀ g j c, G'.S g j = some c → w'.cell? ⟨g, j, none⟩ = some c) (hlim : ∀ g p, G'.ω g = some p → g < w'.heap.size) (hgω : G'.ω g = some (.ob lv u)) (hnew : ObR G' w' lv u g ob) : Rel G' (s.setOb lv u ob) a w' := by
  refine ⟨by rw [setOb_n]; exact h.size, h.defers, fun t => ?_, fun lv' t' ob' hob => ?_, fun lv' t' g' hg' => ?_, himm, hlim⟩
  · rw [setOb_t, setOb_lv]
    refine (h.slot t).mono hle fun c j k hk => ?_
    exact hs k _ (by rintro rfl; rw [hgo] at hk; cases hk) (fun j e => by cases e) (fun _ _ e => by cases e) hk
  · rw [ob_setOb ho] at hob
    split at hob
    · rename_i he
      obtain ⟨rfl, rfl⟩ := he
      obtain rfl := Option.some.inj hob
      exact ⟨g, by rw [hβ]; exact hg, hgω, hnew⟩
    · rename_i hne
      obtain ⟨g', h1, h2, h3⟩ := h.obj lv' t' ob' hob
      have hgg : g' ≠ g := by
        rintro rfl
        rw [hgo] at h2
        cases h2
        exact hne ⟨rfl, rfl⟩
      obtain ⟨k1, k2, k3⟩ := hs g' _ hgg (fun j e => by cases e) (fun _ _ e => by cases e) h2
      refine ⟨g', by rw [hβ]; exact h1, k3, h3.mono hle ⟨k1, k2⟩ fun j k hk => ?_⟩
      refine hs k _ (by rintro rfl; rw [hgo] at hk; cases hk) (fun j' e => ?_) (fun _ _ e => by cases e) hk
      cases e
      exact hne ⟨rfl, rfl⟩
  · rw [ob_setOb ho]
    split
    · exact ⟨_, rfl⟩
    · exact h.dom lv' t' g' (by rw [← hβ]; exact hg')

theorem loadVar_run {t : TypeId} (hz : szOf P t ≠ 0) {b o : Nat} {c : Nat → Value} (hc : ∀ j, j < szOf P t → w.cell? ⟨b, o + j, none⟩ = some (c j)) :
    ∃ x, (loadVar t ⟨b, o, none⟩).run P w = .ok x w ∧ x = if isAgg P t = true then .agg ((List.range (szOf P t)).map c).toArray else c 0 := by
  obtain ⟨i, d, h1, h2, h3, h4⟩ := szOf_ne hz
  unfold loadVar
  simp only [Sem.run_bind, run_isAgg' (P := P) (t := t) (by rw [h2]; rfl), Result.andThen_ok]
  by_cases ha : isAgg P t = true
  · have hl := run_loadCells_list (P := P) (w := w) ⟨b, o, none⟩ ((List.range (szOf P t)).map c) (fun j v hj => by
      rw [List.getElem?_map] at hj
      rcases Nat.lt_or_ge j (szOf P t) with h' | h'
      · rw [List.getElem?_range h', Option.map_some, Option.some.injEq] at hj
        subst hj
        rw [add_eq]
        exact hc j h'
      · rw [List.getElem?_eq_none (by simpa using h')] at hj; cases hj)
    rw [List.length_map, List.length_range] at hl
    simp only [ha, if_true, Sem.run_bind, run_sizeOf' hz, Result.andThen_ok, hl, Sem.run_pure]
    exact ⟨_, rfl, rfl⟩
  · have h0 : w.cell? ⟨b, o, none⟩ = some (c 0) := hc 0 (by omega)
    simp only [ha, Bool.false_eq_true, if_false, run_load, h0]
    exact ⟨_, rfl, rfl⟩
theorem pack_own {p : Nat → Pl} {l : List V} {c : Nat → Value} {ag : Bool} {x : Value} {n : Nat} (hn : 0 < n) (hl : l.length = n) (hT : ∀ j, j < n → OwnC G w (p j) (l.getD j .undef) (c j)) (hx : x = if ag = true then .agg ((List.range n).map c).toArray else c 0) : OwnV G w p (pack ag l) x := by
  subst hx
  cases ag
  · have := hT 0 hn
    simp only [pack, Bool.false_eq_true, if_false]
    cases l with
    | nil => simp at hl; omega
    | cons v l =>
      show OwnV G w p v (c 0)
      simp only [List.getD_cons_zero] at this
      cases v
      case agg m =>
        have h1 : Tr G.S G.β (.agg m) (c 0) := this
        exact OwnV.of_tr' h1
      all_goals exact this
  · simp only [pack, if_true]
    refine ⟨_, rfl, by simp [hl], fun i hi => ?_⟩
    have hi' : i < n := by omega
    have : ((List.range n).map c).toArray.getD i Go.undef = c i := by simp [Array.getD, hi']
    rw [this]
    exact hT i hi'
theorem OwnV.toS {p : Nat → Nat → Pl} {v : V} {x : Value} (h : OwnV G w (p 0) v x) (ht : ∀ l, v ≠ .tup l) : OwnS G w p v x := by
  cases v
  case tup l => exact absurd rfl (ht l)
  all_goals exact h
theorem getD_setL (l c : List V) (off j : Nat) (h : off + c.length ≤ l.length) : (setL l off c).getD j .undef = if off ≤ j ∧ j < off + c.length then c.getD (j - off) .undef else l.getD j .undef := by
  simp only [setL, List.getD_eq_getElem?_getD, List.append_assoc]
  by_cases h1 : j < off
  · rw [List.getElem?_append_left (by simp; omega), List.getElem?_take, if_pos h1, if_neg (by omega)]
  · rw [List.getElem?_append_right (by simp; omega)]
    simp only [List.length_take, Nat.min_eq_left (show off ≤ l.length by omega)]
    by_cases h2 : j - off < c.length
    · rw [List.getElem?_append_left h2, if_pos (by omega)]
    · rw [List.getElem?_append_right (by omega), if_neg (by omega), List.getElem?_drop]
      congr 2
      omega
theorem length_setL (l c : List V) (off : Nat) (h : off + c.length ≤ l.length) : (setL l off c).length = l.length := by
  simp [setL]; omega
def outF (lv u off n : Nat) : Pl → Pl
  | .cl l t j => if l = lv ∧ t = u ∧ off ≤ j ∧ j < off + n then .rs 0 (j - off) else .cl l t j
  | p => p
theorem pack_tup {ag : Bool} {l : List V} {n : Nat} (hl : l.length = n) (hn : 0 < n) (h : ∀ j m, j < n → l.getD j .undef ≠ .tup m) : ∀ m, pack ag l ≠ .tup m := by
  intro m
  cases ag
  · cases l with
    | nil => simp at hl; omega
    | cons v l => exact h 0 m hn
  · intro e; cases e
theorem OwnC.tup {p : Pl} {m : List V} {x : Value} (h : OwnC G w p (.tup m) x) : False := by cases h
theorem flat_agg_or (v : V) : (∃ l, v = .agg l) ∨ ((∀ l, v ≠ .agg l) ∧ v.flat = [v]) := by
  cases v
  case agg l => exact .inl ⟨l, rfl⟩
  all_goals exact .inr ⟨fun l e => (by cases e), rfl⟩
/-- the same, the world standing still -/
def OpOkS (P : Program) (o : Oper) (G : Gh) (s : St) (a : Act) (w : World) (v : V) (s1 : St) : Prop :=
  ∃ x G', (execOp a.eval o).run P w = .ok (.value x) w ∧ Rel G' s1 a w ∧ OwnS G' w Pl.rs v x ∧ Fr s.lv G w G' w
theorem OpOkS.tr (h : Rel G s a w) {v : V} {x : Value} (hr : (execOp a.eval o).run P w = .ok (.value x) w) (hT : Tr G.S G.β v x) : OpOkS P o G s a w v s :=
  ⟨x, G, hr, h, OwnS.of_tr' hT, Fr.refl _ _ _⟩
theorem op_loadS {x : Operand} {t : TypeId} {tk : Bool} {v : V} {s1 : St} (h : Rel G s a w) (hv : vLoad P s tk t (s.see P 0 x) = some (v, s1)) : OpOkS P ⟨d, .load t x, ty, pos, af, gd⟩ G s a w v s1 := by
  have h1 := h.see P 0 x
  unfold vLoad at hv
  generalize s.see P 0 x = u at hv h1
  have hrun : ∀ b o y w', a.eval x = .pointer (some ⟨b, o, none⟩) → (loadVar t ⟨b, o, none⟩).run P w = .ok y w' → (execOp a.eval ⟨d, .load t x, ty, pos, af, gd⟩).run P w = .ok (.value y) w' := by
    intro b o y w' hx hl
    simp only [execOp]
    refine run_val ?_
    simp only [Instr.loadAt, hx, Instr.sureAddr, Sem.run_bind, Sem.run_pure, Result.andThen_ok, hl]
  split at hv
  · rename_i lv u off
    obtain ⟨g, hg, hx⟩ := h1.ptr_inv
    split at hv
    · rename_i cs ho
      split at hv
      · rename_i hc
        obtain ⟨g', hg', hω, en, ety, hb, hl, hS, hT⟩ := h.obj lv u _ ho
        obtain rfl : g' = g := by rw [hg] at hg'; exact (Option.some.inj hg').symm
        obtain ⟨y, hy, hy'⟩ := loadVar_run (P := P) (w := w) hc.2 (b := g') (o := off) (c := fun j => en.getD (off + j) Go.undef) (fun j hj => by
          have : off + j < en.size := by omega
          simp [World.cell?, hb, Array.getD, this])
        split at hv
        · obtain ⟨rfl, rfl⟩ := Prod.mk.inj (Option.some.inj hv)
          have hlen : ((cs.drop off).take (szOf P t)).length = szOf P t := by simp; omega
          have hle : Le G (G.ren (outF lv u off (szOf P t))) := G.ren_le _
          have hown : OwnV (G.ren (outF lv u off (szOf P t))) w (Pl.rs 0) (pack (isAgg P t) ((cs.drop off).take (szOf P t))) y :=
            pack_own (by omega) hlen (fun j hj => by
              rw [getD_drop_take _ _ _ _ hj]
              exact (hT (off + j) (by omega)).ren _ (by simp only [outF]; rw [if_pos ⟨trivial, trivial, by omega, by omega⟩]; congr 1; omega)) hy'
          refine ⟨y, G.ren (outF lv u off (szOf P t)), hrun _ _ _ _ hx hy, ?_, OwnV.toS hown (pack_tup hlen (by omega) fun j m hj e => ?_), ren_fr fun p => ?_⟩
          · refine h.setOb ho hg hω hle rfl (fun k p hk hp _ hpk => ⟨rfl, fun _ => rfl, ?_⟩) h.imm (ren_lim h.lim) (by rw [ren_ω hω]; rfl) ?_
            · rw [ren_ω hpk]
              congr 1
              cases p with
              | cl l t' j =>
                simp only [outF]
                split
                · rename_i hh
                  exact absurd (by rw [hh.1, hh.2.1]) (hp j)
                · rfl
              | _ => rfl
            · have hlm : (((cs.drop off).take (szOf P t)).map V.viewC).length = szOf P t := by rw [List.length_map, hlen]
              refine ⟨en, ety, hb, by rw [length_setL _ _ _ (by rw [hlm]; omega)]; exact hl, hS, fun j hj => ?_⟩
              rw [length_setL _ _ _ (by rw [hlm]; omega)] at hj
              rw [getD_setL _ _ _ _ (by rw [hlm]; omega), hlm]
              split
              · rename_i hh
                rw [getD_viewC, getD_drop_take _ _ _ _ (by omega), show off + (j - off) = j by omega]
                exact OwnC.of_tr (hle.tr (hT j hj).view)
              · rename_i hh
                exact (hT j hj).ren _ (by simp only [outF]; rw [if_neg (fun e => hh ⟨e.2.2.1, e.2.2.2⟩)])
          · rw [getD_drop_take _ _ _ _ hj] at e
            have := hT (off + j) (by omega)
            rw [e] at this
            exact this.tup
          · cases p with
            | cl l t' j => exact .inr trivial
            | _ => exact .inl rfl
        · obtain ⟨rfl, rfl⟩ := Prod.mk.inj (Option.some.inj hv)
          refine OpOkS.tr h (hrun _ _ _ _ hx hy) (pack_tr (n := szOf P t) (by omega) (by simp; omega) (fun j hj => ?_) hy')
          rw [getD_viewC, getD_drop_take _ _ _ _ hj]
          exact (hT (off + j) (by omega)).view
      · cases hv
    · cases hv
  · rename_i l
    split at hv
    · rename_i hc
      obtain ⟨rfl, rfl⟩ := Prod.mk.inj (Option.some.inj hv)
      obtain ⟨b, o, c, hx, _, hS, hT⟩ := h1.imp_inv
      obtain ⟨y, hy, hy'⟩ := loadVar_run (P := P) (w := w) hc.2 (b := b) (o := o) (c := c) (fun j hj => h.imm _ _ _ (hS j (by omega)))
      refine OpOkS.tr h (hrun _ _ _ _ hx hy) (pack_tr (n := szOf P t) (by omega) (by simp; omega) (fun j hj => ?_) hy')
      have := hT j (by omega)
      simpa [List.getD_eq_getElem?_getD, List.getElem?_take, hj] using this
    · cases hv
  · rename_i lv u i sz
    obtain ⟨g, hg, hx⟩ := h1.eptr_inv
    split at hv
    · rename_i fz sz' l ho
      split at hv
      · rename_i hc
        obtain ⟨rfl, rfl, hz, hi⟩ := hc
        obtain ⟨rfl, rfl⟩ := Prod.mk.inj (Option.some.inj hv)
        obtain ⟨g', hg', hω, en, ety, hb, hl, hs, hT, _⟩ := h.obj lv u _ ho
        obtain rfl : g' = g := by rw [hg] at hg'; exact (Option.some.inj hg').symm
        have hfl : (l.getD i .undef).flat.length = szOf P t := by
          refine (hs _ ?_).1
          rw [List.getD_eq_getElem?_getD, List.getElem?_eq_getElem hi]
          exact List.getElem_mem hi
        have hle : i * szOf P t + szOf P t ≤ en.size := by
          refine Nat.le_trans ?_ hl
          calc i * szOf P t + szOf P t = (i + 1) * szOf P t := by rw [Nat.succ_mul]
            _ ≤ l.length * szOf P t := Nat.mul_le_mul_right _ hi
        obtain ⟨y, hy, hy'⟩ := loadVar_run (P := P) (w := w) hz (b := g') (o := i * szOf P t) (c := fun j => en.getD (i * szOf P t + j) Go.undef) (fun j hj => by
          have : i * szOf P t + j < en.size := by omega
          simp [World.cell?, hb, Array.getD, this])
        exact OpOkS.tr h (hrun _ _ _ _ hx hy) (pack_tr (n := szOf P t) (by omega) hfl (fun j hj => hT i j hi hj) hy')
      · cases hv
    · cases hv
  · cases hv
theorem op_load {x : Operand} {t : TypeId} {tk : Bool} {v : V} {s1 : St} (h : Rel G s a w) (hv : vLoad P s tk t (s.see P 0 x) = some (v, s1)) : OpOk P ⟨d, .load t x, ty, pos, af, gd⟩ G s a w v s1 :=
  let ⟨x, G', h1, h2⟩ := op_loadS h hv
  ⟨x, w, G', h1, h2⟩
end Go.Ev
