/- A region in its order; a function's end. -/
import Derived.Test.YtdepiibcopbjlaaEvSound2
namespace Go.Ev
open Go
set_option linter.unusedVariables false
set_option linter.unusedSimpArgs false
variable {E : Env} {G : Gh} {s : St} {a : Act} {w : World}

theorem OwnS.tup_inv {p : Nat → Nat → Pl} {x : Value} (h : OwnS G w p (.tup []) x) : x = .tuple #[] := by
  obtain ⟨vs, hx, hl, _⟩ := h
  have : vs = #[] := by
    apply Array.eq_empty_of_size_eq_zero
    simpa using hl.symm
  rw [hx, this]
theorem OwnS.bool_inv {p : Nat → Nat → Pl} {b : Bool} {x : Value} (h : OwnS G w p (.bool b) x) : x = .bool b := by
  rw [ownS_C (fun l e => by cases e) (fun l e => by cases e)] at h
  exact Tr.bool_inv h
theorem Rel.skip (hr : Rel G s a w) (d : Option Nat) : ∃ G', Rel G' (s.putO d (.tup [])) (a.put d undef) w ∧ Fr s.lv G w G' w := by
  cases d with
  | none => exact ⟨G, hr, Fr.refl _ _ _⟩
  | some d =>
    by_cases hd : d < s.n
    · obtain ⟨G', h1, h2, _⟩ := hr.put (v := .tup []) (x := undef) ⟨#[], rfl, rfl, fun i hi => absurd hi (Nat.not_lt_zero _)⟩ d hd
      exact ⟨G', h1, h2⟩
    · have he : a.put (some d) undef = a := by
        show { a with tmps := a.tmps.setIfInBounds d undef } = a
        rw [Array.setIfInBounds_eq_of_size_le (by rw [hr.size]; omega)]
      rw [he]
      refine ⟨G, ⟨hr.size, hr.defers, fun t => ?_, fun l t ob ho => hr.obj l t ob ho, fun l t g hg => hr.dom l t g hg, hr.imm, hr.lim⟩, Fr.refl _ _ _⟩
      show OwnS G w (.tm s.lv t) (upd s.t d (.tup []) t) _
      unfold upd
      by_cases ht : t = d
      · rw [if_pos ht]
        have : a.tmps.getD t undef = undef := by
          simp only [Array.getD_eq_getD_getElem?]
          rw [Array.getElem?_eq_none (by rw [hr.size]; omega)]
          rfl
        rw [this]
        exact ⟨#[], rfl, rfl, fun i hi => absurd hi (Nat.not_lt_zero _)⟩
      · rw [if_neg ht]; exact hr.slot t

theorem wanted_of (hr : Rel G s a w) {all : Array Oper} {o : Oper} {j : Nat} {want : Bool} (hg : o.guard = some (j, want)) {v : V} (hv : ((all[j]?).bind (·.dst)).map s.t = some v) :
    (∀ b, v = .bool b → Region.wanted o (yielded all a.tmps) = (b == want)) ∧ (v = .tup [] → Region.wanted o (yielded all a.tmps) = false) := by
  obtain ⟨t, ht, rfl⟩ := Option.map_eq_some_iff.1 hv
  unfold Region.wanted yielded
  rw [hg]
  dsimp only
  rw [ht]
  have hs := hr.slot t
  refine ⟨fun b hb => ?_, fun hb => ?_⟩
  · rw [hb] at hs
    have h1 := hs.bool_inv
    have : a.tmps[t]? = some (.bool b) := by
      simp only [Array.getD_eq_getD_getElem?] at h1
      cases hx : a.tmps[t]? with
      | none => rw [hx] at h1; cases h1
      | some y => rw [hx] at h1; simp at h1; rw [h1]
    simp only [Option.bind_some, this]
    cases b <;> cases want <;> rfl
  · rw [hb] at hs
    have h1 := hs.tup_inv
    simp only [Option.bind_some]
    simp only [Array.getD_eq_getD_getElem?] at h1
    cases hx : a.tmps[t]? with
    | none => rfl
    | some y => rw [hx] at h1; simp at h1; rw [h1]; rfl

theorem stepG_ok {n : Nat} (hS : SoundN E n) (hO : OrcOk E) {all : Array Oper} {o : Oper} {s' : St} (h : stepG E n all o s = some s') (hr : Rel G s a w) (hlow : Low s) {K : Act → World → Prop} {Q : Exit → Act → World → Prop}
    (hK : ∀ a' w' G', Rel G' s' a' w' → Nx s s' → Fr s.lv G w G' w' → K a' w') : if Region.wanted o (yielded all a.tmps) then o.wp E.P a w K Q ∨ (o.asks E.P a w ∧ LetsOut Q) else K (a.put o.dst undef) w := by
  have go : ∀ {s'}, stepO E n o s = some s' → (∀ a' w' G', Rel G' s' a' w' → Nx s s' → Fr s.lv G w G' w' → K a' w') → o.wp E.P a w K Q := fun h hK => stepO_ok hS hO h hr hlow fun x w' G' h1 h2 h3 => hK _ w' G' h1 h2 h3
  have skip : s' = s.putO o.dst (.tup []) → K (a.put o.dst undef) w := by
    rintro rfl
    obtain ⟨G', h1, h2⟩ := hr.skip o.dst
    exact hK _ w G' h1 (.putO _ _ _) h2
  unfold stepG at h
  split at h
  · rename_i hg
    have : Region.wanted o (yielded all a.tmps) = true := by unfold Region.wanted; rw [hg]
    rw [if_pos this]
    exact .inl (go h hK)
  · rename_i j want hg
    split at h
    · rename_i b hb
      have := (wanted_of hr hg hb).1 b rfl
      by_cases e : b = want
      · rw [if_pos e] at h
        rw [if_pos (by rw [this, e]; simp)]
        exact .inl (go h hK)
      · rw [if_neg e] at h
        rw [if_neg (by rw [this]; simp [e])]
        exact skip (Option.some.inj h).symm
    · rename_i hb
      have := (wanted_of hr hg hb).2 rfl
      rw [if_neg (by rw [this]; simp)]
      exact skip (Option.some.inj h).symm
    · cases h
theorem region_ok {n : Nat} (hS : SoundN E n) (hO : OrcOk E) {all : Array Oper} {Q : Exit → Act → World → Prop} : ∀ (m k : Nat) {G : Gh} {s s' : St} {a : Act} {w : World}, k + m = all.size → stepsO E n all (all.toList.drop k) s = some s' → Rel G s a w → Low s →
    (∀ a' w' G', Rel G' s' a' w' → Nx s s' → Fr s.lv G w G' w' → Q .normal a' w') → wpOps E.P all Q (List.range' k m) a w := by
  intro m
  induction m with
  | zero =>
    intro k G s s' a w hk h hr hlow hQ
    rw [List.drop_eq_nil_of_le (by simp; omega)] at h
    obtain rfl := Option.some.inj h
    exact hQ a w G hr (.refl _) (Fr.refl _ _ _)
  | succ m ih =>
    intro k G s s' a w hk h hr hlow hQ
    have hlt : k < all.toList.length := by simp; omega
    rw [List.drop_eq_getElem_cons hlt] at h
    obtain ⟨s1, h1, h2⟩ := Option.bind_eq_some_iff.1 h
    rw [List.range'_succ]
    unfold wpOps
    have ho : all[k]? = some all.toList[k] := by
      rw [← Array.getElem?_toList, List.getElem?_eq_getElem hlt]
    rw [ho]
    dsimp only
    refine stepG_ok hS hO h1 hr hlow fun a1 w1 G1 r1 nx f1 => ?_
    refine ih (k + 1) (by omega) h2 r1 (nx.low hlow) fun a' w' G' r' nx' f' => hQ a' w' G' r' (nx.trans nx') (f1.trans (nx.lv ▸ f'))

theorem Its.head {c : Code} {its : List It} {k : List Item} (h : Its (.code c :: its) k) : ∃ k', k = .code c :: k' ∧ Its its k' := by
  cases h with
  | code _ h => exact ⟨_, rfl, h⟩
theorem leaves {b : Frame} {fn : Func} {G' : Gh} {v : V} {s1 : St} (hr : Rel G s a w) (hf : E.P.funcs[s.f]? = some fn) (hres : fn.results = s.r) (hv : endV E.P s = some (v, s1)) (hb : b.fn = s.f) (hk : b.kind = .normal) :
    ∃ x G', (∀ todo, (({ b.at a todo with mode := .returning } : Frame)).leaving E.P w (.returned x)) ∧ Done s.lv G w s1.o v x w G' := by
  obtain ⟨x, G', h1, h2⟩ := end_ok hr hres hv
  exact ⟨x, G', fun todo => ⟨rfl, hr.defers, hk, fn, by show E.P.funcs[b.fn]? = _; rw [hb]; exact hf, h1⟩, h2⟩
theorem endV_low {v : V} {s1 : St} (hv : endV E.P s = some (v, s1)) (h : Low s) : LowL s1.o := by
  have one : ∀ {r v s1}, resV E.P s r = some (v, s1) → Nx s s1 := by
    intro r v s1 hv
    unfold resV at hv
    split at hv
    · split at hv
      · obtain ⟨x, hx, he⟩ := Option.map_eq_some_iff.1 hv
        obtain ⟨rfl, rfl⟩ := Prod.mk.inj he
        exact .frz _
      · split at hv
        · obtain ⟨_, rfl⟩ := Prod.mk.inj (Option.some.inj hv); exact .refl _
        · cases hv
      · split at hv
        · obtain ⟨_, rfl⟩ := Prod.mk.inj (Option.some.inj hv); exact .refl _
        · cases hv
    · split at hv
      · rename_i hl
        split at hv
        · obtain ⟨_, rfl⟩ := Prod.mk.inj (Option.some.inj hv); exact .load hl
        · cases hv
      · cases hv
  have many : ∀ (rs : List ResultVar) {s s1 : St} {vs}, resTs E.P s rs = some (vs, s1) → Nx s s1 := by
    intro rs
    induction rs with
    | nil => intro s s1 vs h; obtain ⟨_, rfl⟩ := Prod.mk.inj (Option.some.inj h); exact .refl _
    | cons r rs ih =>
      intro s s1 vs h
      unfold resTs at h
      split at h
      · rename_i v s2 h1
        split at h
        · rename_i h2
          obtain ⟨_, rfl⟩ := Prod.mk.inj (Option.some.inj h)
          refine Nx.trans ?_ (ih h2)
          unfold resT at h1
          split at h1
          · exact .tree h1
          · split at h1
            · rename_i hl
              split at h1
              · obtain ⟨_, rfl⟩ := Prod.mk.inj (Option.some.inj h1); exact .load hl
              · cases h1
            · cases h1
        · cases h
      · cases h
  unfold endV at hv
  split at hv
  · exact ((one hv).low h).outer
  · obtain ⟨y, hy, he⟩ := Option.map_eq_some_iff.1 hv
    obtain ⟨rfl, rfl⟩ := Prod.mk.inj he
    exact ((many _ hy).low h).outer

end Go.Ev
