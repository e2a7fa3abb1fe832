/- Stores; parts of a tuple; structs. -/
import Derived.Test.YtdepiibcopbjlaaEvOps8
namespace Go.Ev
open Go
set_option linter.unusedVariables false
set_option linter.unusedSimpArgs false
variable {P : Program} {G : Gh} {s : St} {a : Act} {w : World} {o : Oper}
variable {d : Option Nat} {ty : TypeId} {pos : String} {af : Array Edge} {gd : Option (Nat × Bool)}

theorem store_run {t : TypeId} (hz : szOf P t ≠ 0) {g off : Nat} {cs : Array Value} {ct : TypeId} {x : Value} (hg : w.heap[g]? = some (.cells cs ct (0, 0))) (hx : x.cells.size = szOf P t) (hb : off + szOf P t ≤ cs.size) (h1 : ∀ u ∈ x.cells.toList, u.oneCell' = true) :
    (storeVar t ⟨g, off, none⟩ x).run P w = .ok () (w.setRow g (cs.toList.take off ++ x.cells.toList ++ cs.toList.drop (off + szOf P t)).toArray) := by
  have hst := run_storeCells_at P g off ct x.cells.toList 0 cs w hg (by simp [hx]; exact hb) h1
  simp only [Nat.add_zero, Array.length_toList, hx] at hst
  unfold storeVar
  simp only [Sem.run_bind, run_sizeOf' hz, Result.andThen_ok, hx, ne_eq, not_true_eq_false, if_false]
  exact hst
theorem getD_row {cs : Array Value} {vs : List Value} {off n j : Nat} (hv : vs.length = n) (hb : off + n ≤ cs.size) : (cs.toList.take off ++ vs ++ cs.toList.drop (off + n)).toArray.getD j Go.undef = if off ≤ j ∧ j < off + n then vs.getD (j - off) Go.undef else cs.getD j Go.undef := by
  simp only [Array.getD_eq_getD_getElem?, List.getElem?_toArray, List.append_assoc, List.getD_eq_getElem?_getD]
  by_cases h1 : j < off
  · rw [List.getElem?_append_left (by simp; omega), List.getElem?_take, if_pos h1, if_neg (by omega)]
    simp
  · rw [List.getElem?_append_right (by simp; omega)]
    simp only [List.length_take, Array.length_toList, Nat.min_eq_left (show off ≤ cs.size by omega)]
    by_cases h2 : j - off < vs.length
    · rw [List.getElem?_append_left h2, if_pos (by omega)]
    · rw [List.getElem?_append_right (by omega), if_neg (by omega), List.getElem?_drop]
      rw [show off + n + (j - off - vs.length) = j by omega]
      simp
theorem size_row {cs : Array Value} {vs : List Value} {off n : Nat} (hv : vs.length = n) (hb : off + n ≤ cs.size) : (cs.toList.take off ++ vs ++ cs.toList.drop (off + n)).toArray.size = cs.size := by
  simp only [List.size_toArray, List.length_append, List.length_take, List.length_drop, Array.length_toList]
  omega
theorem drop_ob (x : Operand) (lv u : Nat) : (s.drop x).ob lv u = s.ob lv u := by cases x <;> rfl
theorem drop_lv (x : Operand) : (s.drop x).lv = s.lv := by cases x <;> rfl
def putOF (lv u off : Nat) : Pl → Pl
  | .rs 0 j => .cl lv u (off + j)
  | p => p
/-- an operation without a value -/
def OpU (P : Program) (o : Oper) (G : Gh) (s : St) (a : Act) (w : World) (s1 : St) : Prop :=
  ∃ w' G', (execOp a.eval o).run P w = .ok .skip w' ∧ Rel G' s1 a w' ∧ Fr s.lv G w G' w'
theorem op_store {x y : Operand} {t : TypeId} {s1 : St} (h : Rel G s a w) (hv : uStore P s t y (s.see P 0 x) = some s1) : OpU P ⟨d, .store t x y, ty, pos, af, gd⟩ G s a w s1 := by
  have hx := h.see P 0 x
  unfold uStore at hv
  generalize s.see P 0 x = xv at hv hx
  have fin : ∀ {g off : Nat} {w' : World} {G' : Gh}, a.eval x = .pointer (some ⟨g, off, none⟩) → (storeVar t ⟨g, off, none⟩ (a.eval y)).run P w = .ok () w' → Rel G' s1 a w' → Fr s.lv G w G' w' → OpU P ⟨d, .store t x y, ty, pos, af, gd⟩ G s a w s1 := by
    intro g off w' G' e1 e2 e3 e4
    refine ⟨w', G', ?_, e3, e4⟩
    simp only [execOp, Instr.storeAt, e1, Instr.sureAddr, Sem.run_bind, Sem.run_pure, Result.andThen_ok, e2]
  split at hv
  · rename_i lv u off
    dsimp only at hv
    split at hv
    · rename_i cs ho
      split at hv
      · rename_i hc
        obtain ⟨hl, hb, hz, hok, _⟩ := hc
        obtain ⟨G1, h1, h2, h3, _, h5, h6⟩ := h.all P t y
        have hu : s.all P t y ≠ .undef := by rintro e; rw [e] at hok; cases hok
        have ht : ∀ l, s.all P t y ≠ .tup l := by intro l e; rw [e] at hok; cases hok
        have hs1 : s1 = (s.drop y).setOb lv u (.box (setL cs off (s.all P t y).flat)) := by
          split at hv
          · cases hv
          · cases hv
          · exact (Option.some.inj hv).symm
        subst hs1
        obtain ⟨q1, q2⟩ := (h2.toV ht).cells hu ht
        obtain ⟨g, hg, hxe⟩ := hx.ptr_inv
        rw [← h6] at hg
        obtain ⟨g', hg', hω, en, ety, hbk, hlen, hS, hT⟩ := h1.obj lv u _ (by rw [drop_ob]; exact ho)
        obtain rfl : g' = g := by rw [hg] at hg'; exact (Option.some.inj hg').symm
        have hsz : (a.eval y).cells.size = szOf P t := by omega
        have hone : ∀ z ∈ (a.eval y).cells.toList, z.oneCell' = true := by
          intro z hz'
          obtain ⟨j, hj, rfl⟩ := List.getElem_of_mem hz'
          have hj' : j < (s.all P t y).flat.length := by simp at hj; omega
          have := q2 j hj'
          have hc : cellOk ((s.all P t y).flat.getD j .undef) = true := by
            rw [List.all_eq_true] at hok
            refine hok _ ?_
            rw [List.getD_eq_getElem?_getD, List.getElem?_eq_getElem hj', Option.getD_some]
            exact List.getElem_mem hj'
          have := (this.one hc).2
          rw [getD_array_of (by simpa using hj)] at this
          simpa using this
        have hst := store_run (P := P) hz hbk hsz (off := off) (by omega) hone
        have hnew := setRow_heap w g' en (en.toList.take off ++ (a.eval y).cells.toList ++ en.toList.drop (off + szOf P t)).toArray ety _ hbk
        generalize hw' : w.setRow g' (en.toList.take off ++ (a.eval y).cells.toList ++ en.toList.drop (off + szOf P t)).toArray = w' at hst hnew
        have hoth : ∀ k, k ≠ g' → w'.heap[k]? = w.heap[k]? := fun k hk => by rw [← hw']; exact setRow_other w g' k _ hk
        have hws : w'.heap.size = w.heap.size := by rw [← hw']; simp
        have hlv : (s.drop y).lv = s.lv := drop_lv y
        refine fin hxe hst (h1.setOb (G' := G1.ren (putOF lv u off)) (by rw [drop_ob]; exact ho) hg hω (G1.ren_le _) rfl (fun k p hk hp hr hpk => ⟨hoth k hk, fun _ => rfl, ?_⟩) (fun k j c hc => ?_) (fun k p hp => by rw [hws]; exact ren_lim h1.lim k p hp) (by rw [ren_ω hω]; rfl) ?_) (h3.trans ⟨by rw [← hw']; rfl, by rw [← hw']; rfl, by rw [← hw']; rfl, by rw [hws]; exact Nat.le_refl _, fun k hk hm => ⟨hoth k (by rintro rfl; exact hm _ hω trivial), ?_, fun _ => rfl⟩, fun _ _ _ e => e, fun _ _ _ => rfl⟩)
        · rw [ren_ω hpk]
          cases p with
          | rs c j => exact absurd rfl (hr c j)
          | _ => rfl
        · have hkg : k ≠ g' := by rintro rfl; have : G1.S k j = some c := hc; rw [hS] at this; cases this
          have := h1.imm _ _ _ hc
          simp only [World.cell?, hoth k hkg]
          exact this
        · refine ⟨_, ety, hnew, ?_, hS, fun j hj => ?_⟩
          · rw [length_setL _ _ _ (by omega), size_row (by simp [hsz]) (by omega)]; exact hlen
          · rw [length_setL _ _ _ (by omega)] at hj
            rw [getD_setL _ _ _ _ (by omega), getD_row (by simp [hsz]) (by omega), hl]
            by_cases hin : off ≤ j ∧ j < off + szOf P t
            · rw [if_pos hin, if_pos hin]
              have := q2 (j - off) (by omega)
              have h8 := (this.ren (putOF lv u off) (p' := .cl lv u j) (by simp only [putOF]; congr 1; omega)).mono (G' := G1.ren (putOF lv u off)) (w' := w') (p' := .cl lv u j) ⟨fun _ _ _ e => e, fun _ _ _ e => e⟩ (fun k hk => ⟨hoth k (by
                rintro rfl
                have hω' := ren_ω (f := putOF lv u off) hω
                rw [hk] at hω'
                cases hω'), fun _ => rfl, hk⟩)
              simpa [List.getD_eq_getElem?_getD, Array.getD_eq_getD_getElem?] using h8
            · rw [if_neg hin, if_neg hin]
              exact (hT j hj).mono (G1.ren_le _) (fun k hk => ⟨hoth k (by rintro rfl; rw [hω] at hk; cases hk), fun _ => rfl, by rw [ren_ω hk]; rfl⟩)
        · cases hωk : G1.ω k with
          | none => simp [Gh.ren, hωk]
          | some p =>
            rw [ren_ω hωk]
            cases p with
            | rs c j => exact absurd trivial (hm _ hωk)
            | _ => rfl
      · cases hv
    · cases hv
  · rename_i lv u i sz
    split at hv
    · rename_i v s2 htr
      split at hv
      · rename_i sz' l ho
        split at hv
        · rename_i hc
          obtain ⟨hsz, rfl, hfl, hz, hi⟩ := hc
          obtain rfl := Option.some.inj hv
          obtain ⟨G1, h1, h2, h3, h4, h5, h6⟩ := h.tree htr
          obtain ⟨g, hg, hxe⟩ := hx.eptr_inv
          have hg1 := h2.le.β _ _ _ hg
          obtain ⟨g', hg', hω, en, ety, hbk, hlen, hs, hT, hS⟩ := h1.obj lv u _ ho
          obtain rfl : g' = g := by rw [hg1] at hg'; exact (Option.some.inj hg').symm
          have hS' : ∀ j, G1.S g' j = none := hS
          obtain ⟨q1, q2⟩ := tr_cells h3 h5
          have hszt : szOf P t ≠ 0 := by omega
          have hcz : (a.eval y).cells.size = szOf P t := by omega
          have hbd : i * sz' + sz' ≤ en.size := by
            refine Nat.le_trans ?_ hlen
            calc i * sz' + sz' = (i + 1) * sz' := by rw [Nat.succ_mul]
              _ ≤ l.length * sz' := Nat.mul_le_mul_right _ hi
          have hone : ∀ z ∈ (a.eval y).cells.toList, z.oneCell' = true := by
            intro z hz'
            obtain ⟨j, hj, rfl⟩ := List.getElem_of_mem hz'
            have hj' : j < v.flat.length := by simp at hj; omega
            have h7 := q2 j hj'
            have h8 : pureC (v.flat.getD j .undef) = true := by
              rw [List.all_eq_true] at h4
              refine h4 _ ?_
              rw [List.getD_eq_getElem?_getD, List.getElem?_eq_getElem hj', Option.getD_some]
              exact List.getElem_mem hj'
            have := (cells_one h7 (by intro e; rw [e] at h8; cases h8) (by intro l e; rw [e] at h8; cases h8)).2
            rw [getD_array_of (by simpa using hj)] at this
            simpa using this
          have hst := store_run (P := P) hszt hbk hcz (off := i * sz') (by omega) hone
          have hnew := setRow_heap w g' en (en.toList.take (i * sz') ++ (a.eval y).cells.toList ++ en.toList.drop (i * sz' + szOf P t)).toArray ety _ hbk
          generalize hw' : w.setRow g' (en.toList.take (i * sz') ++ (a.eval y).cells.toList ++ en.toList.drop (i * sz' + szOf P t)).toArray = w' at hst hnew
          have hoth : ∀ k, k ≠ g' → w'.heap[k]? = w.heap[k]? := fun k hk => by rw [← hw']; exact setRow_other w g' k _ hk
          have hws : w'.heap.size = w.heap.size := by rw [← hw']; simp
          refine fin hxe hst (h1.setOb (G' := G1) ho hg1 hω (Le.refl _) rfl (fun k p hk hp hr hpk => ⟨hoth k hk, fun _ => rfl, hpk⟩) (fun k j c hc => ?_) (fun k p hp => by rw [hws]; exact h1.lim k p hp) hω ?_) (h2.fr.trans ⟨by rw [← hw']; rfl, by rw [← hw']; rfl, by rw [← hw']; rfl, by rw [hws]; exact Nat.le_refl _, fun k hk hm => ⟨hoth k (by rintro rfl; exact hm _ hω trivial), rfl, fun _ => rfl⟩, fun _ _ _ e => e, fun _ _ _ => rfl⟩)
          · have hkg : k ≠ g' := by rintro rfl; rw [hS'] at hc; cases hc
            have := h1.imm _ _ _ hc
            simp only [World.cell?, hoth k hkg]
            exact this
          · refine ⟨_, ety, hnew, by rw [size_row (by simp [hcz]) (by omega), List.length_set]; exact hlen, fun z hz' => ?_, fun p q hp hq => ?_, hS⟩
            · rcases List.mem_or_eq_of_mem_set hz' with hz' | rfl
              · exact hs z hz'
              · exact ⟨hfl, h4⟩
            · rw [List.length_set] at hp
              rw [getD_row (by simp [hcz]) (by omega)]
              by_cases hpi : p = i
              · subst hpi
                have e1 : (l.set p v).getD p .undef = v := by simp [List.getD_eq_getElem?_getD, hp]
                rw [if_pos (by omega), e1]
                have := q2 q (by omega)
                simpa [List.getD_eq_getElem?_getD, Array.getD_eq_getD_getElem?, show p * sz' + q - p * sz' = q by omega] using this
              · have e1 : (l.set i v).getD p .undef = l.getD p .undef := by simp [List.getD_eq_getElem?_getD, List.getElem?_set, Ne.symm hpi]
                have hne : ¬ (i * sz' ≤ p * sz' + q ∧ p * sz' + q < i * sz' + szOf P t) := by
                  rintro ⟨a1, a2⟩
                  rcases Nat.lt_or_gt_of_ne hpi with hlt | hgt
                  · have := cell_lt hlt hq; omega
                  · have := Nat.mul_le_mul_right sz' (show i + 1 ≤ p from hgt)
                    rw [Nat.succ_mul] at this
                    omega
                rw [if_neg hne, e1]
                exact hT p q hp hq
        · cases hv
      · cases hv
    · cases hv
  · cases hv
end Go.Ev
