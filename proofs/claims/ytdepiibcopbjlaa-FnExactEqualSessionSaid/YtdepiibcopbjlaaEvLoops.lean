/- A loop's head: what is kept. -/
import Derived.Test.YtdepiibcopbjlaaEvCalls
namespace Go.Ev
open Go
set_option linter.unusedVariables false
set_option linter.unusedSimpArgs false
variable {P : Program} {G : Gh} {s : St} {a : Act} {w : World} {o : Oper}

theorem mapOpt_get {α β : Type} {f : α → Option β} : ∀ {l : List α} {m : List β}, mapOpt f l = some m → m.length = l.length ∧ ∀ (j : Nat) (x : α), l[j]? = some x → ∃ y, m[j]? = some y ∧ f x = some y := by
  intro l
  induction l with
  | nil => intro m h; obtain rfl := Option.some.inj h; exact ⟨rfl, fun j x hx => by cases hx⟩
  | cons a l ih =>
    intro m h
    unfold mapOpt at h
    split at h
    · rename_i b m' h1 h2
      obtain rfl := Option.some.inj h
      obtain ⟨k1, k2⟩ := ih h2
      refine ⟨by simp [k1], fun j x hx => ?_⟩
      cases j with
      | zero => simp at hx; subst hx; exact ⟨b, rfl, h1⟩
      | succ j => simpa using k2 j x (by simpa using hx)
    · cases h

/-- rows turned to read alone, each at a place of which a word says that it goes -/
structure Thaw (p : Nat → Nat → Prop) (s s1 : St) : Prop where
  t : s1.t = s.t
  nx : Nx s s1
  ob : ∀ lv u, s1.ob lv u = s.ob lv u ∨ (p lv u ∧ ∃ sz l, s.ob lv u = some (.arr false sz l) ∧ s1.ob lv u = some (.arr true sz l))
theorem Thaw.refl {p} (s : St) : Thaw p s s := ⟨rfl, .refl s, fun _ _ => .inl rfl⟩
theorem Thaw.trans {p} {s s1 s2 : St} (h : Thaw p s s1) (k : Thaw p s1 s2) : Thaw p s s2 := by
  refine ⟨k.t.trans h.t, h.nx.trans k.nx, fun lv u => ?_⟩
  rcases h.ob lv u with h1 | ⟨hp, sz, l, h1, h2⟩
  · rcases k.ob lv u with k1 | ⟨kp, sz', l', k1, k2⟩
    · exact .inl (k1.trans h1)
    · exact .inr ⟨kp, sz', l', h1 ▸ k1, k2⟩
  · rcases k.ob lv u with k1 | ⟨kp, sz', l', k1, k2⟩
    · exact .inr ⟨hp, sz, l, h1, k1.trans h2⟩
    · rw [h2] at k1; cases k1
theorem frz_t (v : V) : (s.frz v).t = s.t := by
  unfold St.frz
  split
  · split
    · exact setOb_t _ _ _
    · rfl
  · rfl
theorem Thaw.frz {p : Nat → Nat → Prop} {lv t n : Nat} (hp : p lv t) : Thaw p s (s.frz (.aref lv t n)) := by
  refine ⟨frz_t _, .frz _, fun l u => ?_⟩
  unfold St.frz
  dsimp only
  split
  · rename_i sz m ho
    rw [ob_setOb ho]
    by_cases he : l = lv ∧ u = t
    · obtain ⟨rfl, rfl⟩ := he
      exact .inr ⟨hp, sz, m, ho, by simp⟩
    · exact .inl (by rw [if_neg he])
  · exact .inl rfl
theorem tree_frz {lv t n : Nat} : tree (s.frz (.aref lv t n)) (.aref lv t n) = match s.ob lv t with
    | some (.arr _ sz l) => if l.length = n then some (.slc false sz l) else none
    | _ => none := by
  unfold tree St.frz
  dsimp only
  cases ho : s.ob lv t with
  | none => simp only [ho]
  | some ob =>
    cases ob with
    | arr fz sz l =>
      cases fz
      · dsimp only
        rw [ob_setOb ho, if_pos ⟨rfl, rfl⟩]
      · simp only [ho]
    | box cs => simp only [ho]
    | map es => simp only [ho]
theorem Thaw.tree {p} {s1 : St} {lv t n : Nat} (h : Thaw p s s1) {u : V} (ht : Ev.tree (s.frz (.aref lv t n)) (.aref lv t n) = some u) : Ev.tree (s1.frz (.aref lv t n)) (.aref lv t n) = some u := by
  rw [tree_frz] at ht ⊢
  rcases h.ob lv t with h1 | ⟨_, sz, l, h1, h2⟩
  · rw [h1]; exact ht
  · rw [h1] at ht; rw [h2]; exact ht
/-- what a reading gave it gives later on -/
theorem Thaw.read {p} {s1 : St} {v : V} (h : Thaw p s s1) {u : V} (ht : Ev.tree s v = some u) : Ev.tree s1 v = some u := by
  unfold Ev.tree at ht ⊢
  split
  · rename_i lv t n
    dsimp only at ht
    rcases h.ob lv t with h1 | ⟨_, sz, l, h1, h2⟩
    · rw [h1]; exact ht
    · rw [h1] at ht; cases ht
  · exact ht
  · rename_i h1 h2
    split at ht
    · exact absurd rfl (h1 _ _ _)
    · exact absurd rfl (h2 _)
    · exact ht
def frzL : List V → St → St
  | [], s => s
  | v :: l, s => frzL l (s.frz v)
def goes (s : St) (objs : List Nat) : V → Bool
  | .aref lv t _ => lv == s.lv && !memN t objs
  | _ => false
theorem frzL_ok {p : Nat → Nat → Prop} {a : Act} {w : World} : ∀ (vs : List V) {G : Gh} {s : St}, Rel G s a w → (∀ v ∈ vs, ∃ lv t n, v = .aref lv t n ∧ p lv t) →
    ∃ G', Rel G' (frzL vs s) a w ∧ Still G s w G' (frzL vs s) ∧ Thaw p s (frzL vs s) ∧ ∀ v ∈ vs, ∀ u, Ev.tree (s.frz v) v = some u → Ev.tree (frzL vs s) v = some u := by
  intro vs
  induction vs with
  | nil => intro G s h _; exact ⟨G, h, .refl, .refl s, fun v hv => by cases hv⟩
  | cons v vs ih =>
    intro G s h hp
    obtain ⟨G1, h1, h2⟩ := h.frz v
    obtain ⟨lv, t, n, rfl, hpt⟩ := hp _ List.mem_cons_self
    have ht : Thaw p s (s.frz (.aref lv t n)) := .frz hpt
    obtain ⟨G2, k1, k2, k3, k4⟩ := ih h1 fun v hv => hp v (List.mem_cons_of_mem _ hv)
    refine ⟨G2, k1, h2.trans k2, ht.trans k3, fun v hv u hu => ?_⟩
    rcases List.mem_cons.1 hv with rfl | hv
    · exact k3.read hu
    · obtain ⟨lv', t', n', rfl, _⟩ := hp _ (List.mem_cons_of_mem _ hv)
      exact k4 _ hv u (ht.tree hu)

theorem memN_iff {n : Nat} : ∀ {l : List Nat}, memN n l = true ↔ n ∈ l := by
  intro l
  induction l with
  | nil => simp [memN]
  | cons a l ih => unfold memN; split <;> simp_all
theorem keepT_get {objs : List Nat} : ∀ {ks : List Nat} {f : Nat → V}, keepT s objs ks = some f → ∀ t, f t = .undef ∨ (t ∈ ks ∧ canonV s objs (s.t t) = some (f t)) := by
  intro ks
  induction ks with
  | nil => intro f h t; obtain rfl := Option.some.inj h; exact .inl rfl
  | cons k ks ih =>
    intro f h t
    unfold keepT at h
    split at h
    · rename_i v g h1 h2
      obtain rfl := Option.some.inj h
      unfold upd
      by_cases e : t = k
      · subst e; rw [if_pos rfl]; exact .inr ⟨List.mem_cons_self, h1⟩
      · rw [if_neg e]
        rcases ih h2 t with h | ⟨h, h'⟩
        · exact .inl h
        · exact .inr ⟨List.mem_cons_of_mem _ h, h'⟩
    · cases h
theorem keepB_get {objs : List Nat} : ∀ {ks : List Nat} {g : Nat → Option Ob}, keepB s objs ks = some g → (∀ t ob', g t = some ob' → t ∈ ks ∧ ∃ ob, s.b t = some ob ∧ keepO s objs ob = some ob') ∧ ∀ t ∈ ks, (g t).isSome = true := by
  intro ks
  induction ks with
  | nil => intro f h; obtain rfl := Option.some.inj h; exact ⟨fun t ob h => (by cases h), fun t h => by cases h⟩
  | cons k ks ih =>
    intro f h
    unfold keepB at h
    split at h
    · rename_i v g h1 h2
      obtain rfl := Option.some.inj h
      obtain ⟨ob, ho, hk⟩ := Option.bind_eq_some_iff.1 h1
      obtain ⟨i1, i2⟩ := ih h2
      unfold upd
      refine ⟨fun t ob' ht => ?_, fun t ht => ?_⟩
      · by_cases e : t = k
        · subst e
          rw [if_pos rfl] at ht
          obtain rfl := Option.some.inj ht
          exact ⟨List.mem_cons_self, ob, ho, hk⟩
        · rw [if_neg e] at ht
          obtain ⟨j1, j2⟩ := i1 t ob' ht
          exact ⟨List.mem_cons_of_mem _ j1, j2⟩
      · by_cases e : t = k
        · rw [if_pos e]; rfl
        · rw [if_neg e]
          rcases List.mem_cons.1 ht with h | h
          · exact absurd h e
          · exact i2 t h
    · cases h

section
variable {objs : List Nat} {s1 : St} {β' : Nat → Nat → Option Nat}
/-- a cell at a loop's head -/
theorem canonC (hβ : ∀ l t, (l ≠ s.lv ∨ memN t objs = true) → β' l t = G.β l t) (h1 : Rel G s1 a w) {v v' : V} (ht : goes s objs v = true → ∀ u, Ev.tree (s.frz v) v = some u → Ev.tree s1 v = some u) {p : Pl} {x : Value} (h : OwnC G w p v x) (hv : canonV s objs v = some v') : OwnC { G with β := β' } w p v' x := by
  have kb : ∀ {lv t}, ¬(lv = s.lv ∧ memN t objs = false) → ∀ {g}, G.β lv t = some g → β' lv t = some g := by
    intro lv t hn g hg
    rw [hβ lv t ?_]; exact hg
    by_cases e : lv = s.lv
    · right
      cases hm : memN t objs with
      | true => rfl
      | false => exact absurd ⟨e, hm⟩ hn
    · exact .inl e
  unfold canonV at hv
  split at hv
  · rename_i lv t n
    have h' : Tr G.S G.β (.aref lv t n) x := h
    split at hv
    · rename_i hc
      have := ht (by simp [goes, hc.1, hc.2]) _ hv
      obtain ⟨k1, k2, k3, k4⟩ := tree_tr h1 h' this
      exact OwnC.of_tr (k1.pure _ k2)
    · rename_i hc
      obtain rfl := Option.some.inj hv
      obtain ⟨g, cap, hg, hcap, hx⟩ := h'.aref_inv
      rw [hx]
      exact OwnC.of_tr (Tr.aref lv t n g cap (kb hc hg) hcap)
  · rename_i lv t off
    have h' : Tr G.S G.β (.ptr lv t off) x := h
    split at hv
    · cases hv
    · rename_i hc
      obtain rfl := Option.some.inj hv
      obtain ⟨g, hg, hx⟩ := h'.ptr_inv
      rw [hx]
      exact OwnC.of_tr (Tr.ptr lv t off g (kb hc hg))
  · rename_i lv t
    have h' : Tr G.S G.β (.mp lv t) x := h
    split at hv
    · cases hv
    · rename_i hc
      obtain rfl := Option.some.inj hv
      obtain ⟨g, hg, hx⟩ := h'.mp_inv
      rw [hx]
      exact OwnC.of_tr (Tr.mp lv t g (kb hc hg))
  · rename_i l
    have h' : Tr G.S G.β (.agg l) x := h
    split at hv
    · rename_i hc
      obtain rfl := Option.some.inj hv
      refine OwnC.of_tr (h'.pure _ ?_)
      have := h'.view_eq
      simp only [V.view, V.agg.injEq] at this
      rw [this] at hc; exact hc
    · cases hv
  · rename_i l
    have h' : Tr G.S G.β (.imp l) x := h
    obtain rfl := Option.some.inj hv
    obtain ⟨b, o, c, hx, hp, hS, hT⟩ := h'.imp_inv
    rw [hx]
    exact OwnC.of_tr (Tr.imp l b o c hp hS fun j hj => (hT j hj).pure _ (pureC_flat (all_getD hp hj)))
  · rename_i f caps
    have h' : Tr G.S G.β (.fn f caps) x := h
    split at hv
    · rename_i hc
      obtain rfl := Option.some.inj hv
      cases h' with
      | fn _ _ cs hl hT =>
        refine OwnC.of_tr (Tr.fn f caps cs hl fun i hi => ?_)
        have hm : caps.getD i .undef ∈ caps := by
          rw [List.getD_eq_getElem?_getD, List.getElem?_eq_getElem hi]
          exact List.getElem_mem hi
        have h2 := List.all_eq_true.1 hc _ hm
        have h3 := hT i hi
        generalize caps.getD i .undef = c at h2 h3
        unfold heldP at h2
        split at h2
        · rename_i lv t off
          obtain ⟨g, hg, hx⟩ := h3.ptr_inv
          rw [hx]
          refine Tr.ptr lv t off g (kb (fun e => ?_) hg)
          rw [e.1, e.2] at h2
          simp at h2
        · exact h3.pure _ (pureC_flat h2)
    · cases hv
  · split at hv
    · rename_i hc
      obtain rfl := Option.some.inj hv
      exact h.pureβ hc _
    · cases hv
/-- a slot at a loop's head -/
theorem canonS (hβ : ∀ l t, (l ≠ s.lv ∨ memN t objs = true) → β' l t = G.β l t) (h1 : Rel G s1 a w) {v v' : V} (ht : goes s objs v = true → ∀ u, Ev.tree (s.frz v) v = some u → Ev.tree s1 v = some u) {p : Nat → Nat → Pl} {x : Value} (h : OwnS G w p v x) (hv : canonV s objs v = some v') : OwnS { G with β := β' } w p v' x := by
  have hu : ∀ l, v ≠ .tup l := by rintro l rfl; simp [canonV, V.viewC, pureC] at hv
  by_cases hag : ∃ l, v = .agg l
  · obtain ⟨l, rfl⟩ := hag
    unfold canonV at hv
    dsimp only at hv
    split at hv
    · rename_i hc
      obtain rfl := Option.some.inj hv
      exact h.pureβ hc _
    · cases hv
  · have ha : ∀ l, v ≠ .agg l := fun l e => hag ⟨l, e⟩
    rw [ownS_C ha hu] at h
    have := canonC hβ h1 ht h hv
    have ha' : ∀ l, v' ≠ .agg l := by
      rintro l rfl
      unfold canonV at hv
      split at hv
      · split at hv
        · rw [tree_frz] at hv
          split at hv
          · split at hv <;> cases hv
          · cases hv
        · cases hv
      · split at hv <;> cases hv
      · split at hv <;> cases hv
      · exact ha _ rfl
      · cases hv
      · split at hv <;> cases hv
      · split at hv
        · obtain rfl := Option.some.inj hv; exact ha _ rfl
        · cases hv
    have hu' : ∀ l, v' ≠ .tup l := by
      rintro l rfl
      unfold canonV at hv
      split at hv
      · split at hv
        · rw [tree_frz] at hv
          split at hv
          · split at hv <;> cases hv
          · cases hv
        · cases hv
      · split at hv <;> cases hv
      · split at hv <;> cases hv
      · exact ha _ rfl
      · cases hv
      · split at hv <;> cases hv
      · split at hv
        · obtain rfl := Option.some.inj hv; exact hu _ rfl
        · cases hv
    rw [ownS_C ha' hu']
    exact this
theorem canonV_low {v v' : V} {l : Nat} (hv : canonV s objs v = some v') (hl : lowV l v = true) : lowV l v' = true := by
  unfold canonV at hv
  split at hv
  · split at hv
    · rw [tree_frz] at hv
      split at hv
      · split at hv
        · obtain rfl := Option.some.inj hv; rfl
        · cases hv
      · cases hv
    · obtain rfl := Option.some.inj hv; exact hl
  · split at hv
    · cases hv
    · obtain rfl := Option.some.inj hv; exact hl
  · split at hv
    · cases hv
    · obtain rfl := Option.some.inj hv; exact hl
  · split at hv
    · obtain rfl := Option.some.inj hv; exact hl
    · cases hv
  · obtain rfl := Option.some.inj hv; exact hl
  · split at hv
    · obtain rfl := Option.some.inj hv; exact hl
    · cases hv
  · split at hv
    · obtain rfl := Option.some.inj hv; exact hl
    · cases hv
end

theorem ObR.nobox {lv t g : Nat} {ob : Ob} (h : ObR G w lv t g ob) (hn : ∀ cs, ob ≠ .box cs) (β' : Nat → Nat → Option Nat) : ObR { G with β := β' } w lv t g ob := by
  cases ob with
  | box cells => exact absurd rfl (hn _)
  | arr fz sz m =>
    obtain ⟨cs, ty, h1, h2, h3, h4, h5⟩ := h
    refine ⟨cs, ty, h1, h2, h3, fun i j hi hj => (h4 i j hi hj).pure _ ?_, h5⟩
    have hm : m.getD i .undef ∈ m := by
      rw [List.getD_eq_getElem?_getD, List.getElem?_eq_getElem hi]
      exact List.getElem_mem hi
    obtain ⟨k1, k2⟩ := h3 _ hm
    exact pureC_flat (all_getD k2 (by omega))
  | map es =>
    obtain ⟨en, ck, h1, h2, h3, h5, h4⟩ := h
    refine ⟨en, ck, h1, h2, h3, h5, fun i hi => ?_⟩
    have hm : es.getD i default ∈ es := by
      rw [List.getD_eq_getElem?_getD, List.getElem?_eq_getElem hi]
      exact List.getElem_mem hi
    exact ⟨(h4 i hi).1.pure _ (h5 _ hm).1, (h4 i hi).2.pure _ (h5 _ hm).2⟩
theorem canon_ok {h : LoopHint} {s' : St} (hr : Rel G s a w) (hlow : Low s) (hc : canon s h = some s') : ∃ G', Rel G' s' a w ∧ Fr s.lv G w G' w ∧ Nx s s' := by
  unfold canon at hc
  split at hc
  · rename_i f g hf hg
    obtain rfl := Option.some.inj hc
    obtain ⟨gb1, gb2⟩ := keepB_get hg
    let cellsOf : Nat → List V := fun t => match s.b t with
      | some (.box cs) => cs
      | _ => []
    let vs : List V := ((h.keep.map s.t) ++ (h.objs.map cellsOf).flatten).filter (goes s h.objs)
    have hvs : ∀ v ∈ vs, ∃ lv t n, v = .aref lv t n ∧ (lv = s.lv ∧ memN t h.objs = false) := by
      intro v hv
      have := (List.mem_filter.1 hv).2
      cases v <;> try (cases this; done)
      rename_i lv t n
      simp [goes] at this
      exact ⟨lv, t, n, rfl, this⟩
    obtain ⟨G1, r1, st, th, tr⟩ := frzL_ok (p := fun lv t => lv = s.lv ∧ memN t h.objs = false) vs hr hvs
    let β' : Nat → Nat → Option Nat := fun l t => if l = s.lv then (if (g t).isSome then G1.β l t else none) else G1.β l t
    have hβ : ∀ l t, (l ≠ s.lv ∨ memN t h.objs = true) → β' l t = G1.β l t := by
      intro l t hh
      show (if l = s.lv then (if (g t).isSome then G1.β l t else none) else G1.β l t) = _
      by_cases e : l = s.lv
      · rw [if_pos e]
        have : t ∈ h.objs := memN_iff.1 (hh.resolve_left fun k => k e)
        rw [gb2 t this]; rfl
      · rw [if_neg e]
    have hlv : (frzL vs s).lv = s.lv := st.lv
    have hob1 : ∀ t, memN t h.objs = true → (frzL vs s).ob s.lv t = s.b t := by
      intro t ht
      rcases th.ob s.lv t with e | ⟨⟨_, e⟩, _⟩
      · rw [e, ob_inner]
      · rw [ht] at e; cases e
    have hob2 : ∀ l t, l ≠ s.lv → (frzL vs s).ob l t = s.ob l t := by
      intro l t hl
      rcases th.ob l t with e | ⟨⟨e, _⟩, _⟩
      · exact e
      · exact absurd e hl
    have hob' : ∀ l t, ({ s with t := f, b := g } : St).ob l t = if l = s.lv then g t else s.ob l t := by
      intro l t
      show (if l = s.o.length then g t else obIn t l s.o) = (if l = s.o.length then g t else (if l = s.o.length then s.b t else obIn t l s.o))
      by_cases e : l = s.o.length
      · rw [if_pos e, if_pos e]
      · rw [if_neg e, if_neg e, if_neg e]
    have hfr : Fr s.lv G1 w { G1 with β := β' } w := ⟨rfl, rfl, rfl, Nat.le_refl _, fun _ _ _ => ⟨rfl, rfl, fun _ => rfl⟩, fun _ _ _ h => h, fun l t hl => hβ l t (.inl (by omega))⟩
    refine ⟨{ G1 with β := β' }, ⟨by rw [r1.size]; exact st.n, r1.defers, fun t => ?_, fun l t ob ho => ?_, fun l t k hk => ?_, r1.imm, r1.lim⟩, st.fr.trans hfr, ⟨rfl, rfl, rfl, rfl, fun _ => ?_⟩⟩
    · show OwnS _ w (.tm s.lv t) (f t) _
      have h2 := r1.slot t
      rw [st.t, hlv] at h2
      rcases keepT_get hf t with h0 | ⟨hk, hcv⟩
      · rw [h0]; exact OwnS.of_tr' (.undef _)
      · refine canonS hβ r1 (fun hgo u hu => tr _ ?_ u hu) h2 hcv
        exact List.mem_filter.2 ⟨List.mem_append_left _ (List.mem_map.2 ⟨t, hk, rfl⟩), hgo⟩
    · rw [hob'] at ho
      split at ho
      · rename_i hl
        subst hl
        obtain ⟨hm, ob0, hb0, hk0⟩ := gb1 t ob ho
        have hmm := memN_iff.2 hm
        obtain ⟨k, k1, k2, k3⟩ := r1.obj s.lv t ob0 (by rw [hob1 t hmm]; exact hb0)
        refine ⟨k, (hβ _ _ (.inr hmm)).trans k1, k2, ?_⟩
        cases ob0 with
        | box cs =>
          obtain ⟨cs', hcs, rfl⟩ := Option.map_eq_some_iff.1 hk0
          obtain ⟨m1, m2⟩ := mapOpt_get hcs
          obtain ⟨en, ty, e1, e2, e3, e4⟩ := k3
          refine ⟨en, ty, e1, m1.trans e2, e3, fun j hj => ?_⟩
          have hj' : j < cs.length := by omega
          obtain ⟨y, y1, y2⟩ := m2 j cs[j] (List.getElem?_eq_getElem hj')
          have h4 := e4 j hj'
          have g1 : cs'.getD j .undef = y := by rw [List.getD_eq_getElem?_getD, y1]; rfl
          have g2 : cs.getD j .undef = cs[j] := by rw [List.getD_eq_getElem?_getD, List.getElem?_eq_getElem hj']; rfl
          rw [g1]
          rw [g2] at h4
          refine canonC hβ r1 (fun hgo u hu => tr _ ?_ u hu) h4 y2
          refine List.mem_filter.2 ⟨List.mem_append_right _ (List.mem_flatten.2 ⟨cs, List.mem_map.2 ⟨t, hm, ?_⟩, List.getElem_mem hj'⟩), hgo⟩
          simp only [cellsOf, hb0]
        | arr fz sz m =>
          obtain rfl := Option.some.inj hk0
          exact k3.nobox (fun cs e => by cases e) β'
        | map es =>
          obtain rfl := Option.some.inj hk0
          exact k3.nobox (fun cs e => by cases e) β'
      · rename_i hl
        obtain ⟨k, k1, k2, k3⟩ := r1.obj l t ob (by rw [hob2 l t hl]; exact ho)
        have hll : l < s.lv := by have := ob_lt ho; omega
        exact ⟨k, (hβ _ _ (.inl hl)).trans k1, k2, k3.low (hlow l t ob ho) fun i u q hi hq => (hβ _ _ (.inl (by omega))).trans hq⟩
    · have hk' : (if l = s.lv then (if (g t).isSome then G1.β l t else none) else G1.β l t) = some k := hk
      split at hk'
      · rename_i hl
        split at hk'
        · rename_i hs
          obtain ⟨ob, ho⟩ := Option.isSome_iff_exists.1 hs
          exact ⟨ob, by rw [hob', if_pos hl]; exact ho⟩
        · cases hk'
      · rename_i hl
        obtain ⟨ob, ho⟩ := r1.dom l t k hk'
        rw [hob2 l t hl] at ho
        exact ⟨ob, by rw [hob', if_neg hl]; exact ho⟩
    · intro l t ob ho
      rw [hob'] at ho
      split at ho
      · rename_i hl
        obtain ⟨hm, ob0, hb0, hk0⟩ := gb1 t ob ho
        have hlo := hlow s.lv t ob0 (by rw [ob_inner]; exact hb0)
        cases ob0 with
        | box cs =>
          obtain ⟨cs', hcs, rfl⟩ := Option.map_eq_some_iff.1 hk0
          obtain ⟨m1, m2⟩ := mapOpt_get hcs
          intro c hcm
          obtain ⟨j, hj, rfl⟩ := List.getElem_of_mem hcm
          have hj' : j < cs.length := by omega
          obtain ⟨y, y1, y2⟩ := m2 j cs[j] (List.getElem?_eq_getElem hj')
          rw [List.getElem?_eq_getElem hj] at y1
          obtain rfl := Option.some.inj y1
          rw [hl]
          exact canonV_low y2 (hlo _ (List.getElem_mem hj'))
        | arr fz sz m => obtain rfl := Option.some.inj hk0; trivial
        | map es => obtain rfl := Option.some.inj hk0; trivial
      · exact hlow l t ob ho
  · cases hc
end Go.Ev
