/- A loop's head: what is kept. What the pure reading says is what the machine does. One operation, and a region. What an operation looks at and what it turns. -/
import Derived.Orders
import Derived.Test.YtkffkacjmhmegaaEvI
set_option linter.unusedVariables false
set_option linter.unusedSimpArgs false
namespace Go.Ev
open Go
variable {P : Program} {G : Gh} {s : St} {a : Act} {w : World} {o : Oper}

theorem mapOpt_get {α β : Type} {f : α → Option β} : ∀ {l : List α} {m : List β}, mapOpt f l = some m → m.length = l.length ∧ ∀ (j : Nat) (x : α), l[j]? = some x → ∃ y, m[j]? = some y ∧ f x = some y := by
 intro l
 induction l with
 | nil => intro m h; obtain rfl := Option.some.inj h; exact ⟨rfl, fun j x hx => by cases hx⟩
 | cons a l ih =>
   intro m h
   unfold mapOpt at h
   split at h
   · rename_i b m' h1 h2
     obtain rfl := Option.some.inj h
     obtain ⟨k1, k2⟩ := ih h2
     refine ⟨by simp [k1], fun j x hx => ?_⟩
     cases j with
     | zero => simp at hx; subst hx; exact ⟨b, rfl, h1⟩
     | succ j => simpa using k2 j x (by simpa using hx)
   · cases h

structure Thaw (p : Nat → Nat → Prop) (s s1 : St) : Prop where
 t : s1.t = s.t
 nx : Nx s s1
 ob : ∀ lv u, s1.ob lv u = s.ob lv u ∨ (p lv u ∧ ∃ sz l, s.ob lv u = some (.arr false sz l) ∧ s1.ob lv u = some (.arr true sz l))
theorem Thaw.refl {p} (s : St) : Thaw p s s := ⟨rfl, .refl s, fun _ _ => .inl rfl⟩
theorem Thaw.trans {p} {s s1 s2 : St} (h : Thaw p s s1) (k : Thaw p s1 s2) : Thaw p s s2 := by
 refine ⟨k.t.trans h.t, h.nx.trans k.nx, fun lv u => ?_⟩
 rcases h.ob lv u with h1 | ⟨hp, sz, l, h1, h2⟩
 · rcases k.ob lv u with k1 | ⟨kp, sz', l', k1, k2⟩
   · exact .inl (k1.trans h1)
   · exact .inr ⟨kp, sz', l', h1 ▸ k1, k2⟩
 · rcases k.ob lv u with k1 | ⟨kp, sz', l', k1, k2⟩
   · exact .inr ⟨hp, sz, l, h1, k1.trans h2⟩
   · rw [h2] at k1; cases k1
theorem frz_t (v : V) : (s.frz v).t = s.t := by
 unfold St.frz
 split
 · split
   · exact setOb_t _ _ _
   · rfl
 · rfl
theorem Thaw.frz {p : Nat → Nat → Prop} {lv t n : Nat} (hp : p lv t) : Thaw p s (s.frz (.aref lv t n)) := by
 refine ⟨frz_t _, .frz _, fun l u => ?_⟩
 unfold St.frz
 dsimp only
 split
 · rename_i sz m ho
   rw [ob_setOb ho]
   by_cases he : l = lv ∧ u = t
   · obtain ⟨rfl, rfl⟩ := he
     exact .inr ⟨hp, sz, m, ho, by simp⟩
   · exact .inl (by rw [if_neg he])
 · exact .inl rfl
theorem tree_frz {lv t n : Nat} : tree (s.frz (.aref lv t n)) (.aref lv t n) = match s.ob lv t with
   | some (.arr _ sz l) => if l.length = n then some (.slc false sz l) else none
   | _ => none := by
 unfold tree St.frz
 dsimp only
 cases ho : s.ob lv t with
 | none => simp only [ho]
 | some ob =>
   cases ob with
   | arr fz sz l =>
     cases fz
     · dsimp only
       rw [ob_setOb ho, if_pos ⟨rfl, rfl⟩]
     · simp only [ho]
   | box cs => simp only [ho]
   | map es => simp only [ho]
   | aru sz l => simp only [ho]
   | dir sz l => simp only [ho]
theorem Thaw.tree {p} {s1 : St} {lv t n : Nat} (h : Thaw p s s1) {u : V} (ht : Ev.tree (s.frz (.aref lv t n)) (.aref lv t n) = some u) : Ev.tree (s1.frz (.aref lv t n)) (.aref lv t n) = some u := by
 rw [tree_frz] at ht ⊢
 rcases h.ob lv t with h1 | ⟨_, sz, l, h1, h2⟩
 · rw [h1]; exact ht
 · rw [h1] at ht; rw [h2]; exact ht
theorem Thaw.read {p} {s1 : St} {v : V} (h : Thaw p s s1) {u : V} (ht : Ev.tree s v = some u) : Ev.tree s1 v = some u := by
 unfold Ev.tree at ht ⊢
 split
 · rename_i lv t n
   dsimp only at ht
   rcases h.ob lv t with h1 | ⟨_, sz, l, h1, h2⟩
   · rw [h1]; exact ht
   · rw [h1] at ht; cases ht
 · exact ht
 · rename_i h1 h2
   split at ht
   · exact absurd rfl (h1 _ _ _)
   · exact absurd rfl (h2 _)
   · exact ht
def frzL : List V → St → St
 | [], s => s
 | v :: l, s => frzL l (s.frz v)
def goes (s : St) (H : Nat → Bool) : V → Bool
 | .aref lv t _ => lv == s.lv && !H t
 | _ => false
theorem frzL_ok {p : Nat → Nat → Prop} {a : Act} {w : World} : ∀ (vs : List V) {G : Gh} {s : St}, Rel G s a w → (∀ v ∈ vs, ∃ lv t n, v = .aref lv t n ∧ p lv t) →
   ∃ G', Rel G' (frzL vs s) a w ∧ Still G s w G' (frzL vs s) ∧ Thaw p s (frzL vs s) ∧ ∀ v ∈ vs, ∀ u, Ev.tree (s.frz v) v = some u → Ev.tree (frzL vs s) v = some u := by
 intro vs
 induction vs with
 | nil => intro G s h _; exact ⟨G, h, .refl, .refl s, fun v hv => by cases hv⟩
 | cons v vs ih =>
   intro G s h hp
   obtain ⟨G1, h1, h2⟩ := h.frz v
   obtain ⟨lv, t, n, rfl, hpt⟩ := hp _ List.mem_cons_self
   have ht : Thaw p s (s.frz (.aref lv t n)) := .frz hpt
   obtain ⟨G2, k1, k2, k3, k4⟩ := ih h1 fun v hv => hp v (List.mem_cons_of_mem _ hv)
   refine ⟨G2, k1, h2.trans k2, ht.trans k3, fun v hv u hu => ?_⟩
   rcases List.mem_cons.1 hv with rfl | hv
   · exact k3.read hu
   · obtain ⟨lv', t', n', rfl, _⟩ := hp _ (List.mem_cons_of_mem _ hv)
     exact k4 _ hv u (ht.tree hu)

theorem memN_iff {n : Nat} : ∀ {l : List Nat}, memN n l = true ↔ n ∈ l := by
 intro l
 induction l with
 | nil => simp [memN]
 | cons a l ih => unfold memN; split <;> simp_all
theorem keepT_get {H : Nat → Bool} : ∀ {ks : List Nat} {f : Nat → V}, keepT s H ks = some f → ∀ t, f t = .undef ∨ (t ∈ ks ∧ canonV s H (s.t t) = some (f t)) := by
 intro ks
 induction ks with
 | nil => intro f h t; obtain rfl := Option.some.inj h; exact .inl rfl
 | cons k ks ih =>
   intro f h t
   unfold keepT at h
   split at h
   · rename_i v g h1 h2
     obtain rfl := Option.some.inj h
     unfold upd
     by_cases e : t = k
     · subst e; rw [if_pos rfl]; exact .inr ⟨List.mem_cons_self, h1⟩
     · rw [if_neg e]
       rcases ih h2 t with h | ⟨h, h'⟩
       · exact .inl h
       · exact .inr ⟨List.mem_cons_of_mem _ h, h'⟩
   · cases h
theorem keepB_get {H : Nat → Bool} : ∀ {ks : List Nat} {g : Nat → Option Ob}, keepB s H ks = some g → (∀ t ob', g t = some ob' → t ∈ ks ∧ ∃ ob, s.b t = some ob ∧ keepO s H ob = some ob') ∧ ∀ t ∈ ks, (g t).isSome = true := by
 intro ks
 induction ks with
 | nil => intro f h; obtain rfl := Option.some.inj h; exact ⟨fun t ob h => (by cases h), fun t h => by cases h⟩
 | cons k ks ih =>
   intro f h
   unfold keepB at h
   split at h
   · rename_i v g h1 h2
     obtain rfl := Option.some.inj h
     obtain ⟨ob, ho, hk⟩ := Option.bind_eq_some_iff.1 h1
     obtain ⟨i1, i2⟩ := ih h2
     unfold upd
     refine ⟨fun t ob' ht => ?_, fun t ht => ?_⟩
     · by_cases e : t = k
       · subst e
         rw [if_pos rfl] at ht
         obtain rfl := Option.some.inj ht
         exact ⟨List.mem_cons_self, ob, ho, hk⟩
       · rw [if_neg e] at ht
         obtain ⟨j1, j2⟩ := i1 t ob' ht
         exact ⟨List.mem_cons_of_mem _ j1, j2⟩
     · by_cases e : t = k
       · rw [if_pos e]; rfl
       · rw [if_neg e]
         rcases List.mem_cons.1 ht with h | h
         · exact absurd h e
         · exact i2 t h
   · cases h

section
variable {H : Nat → Bool} {s1 : St} {β' : Nat → Nat → Option Nat}
theorem canonC (hβ : ∀ l t, (l ≠ s.lv ∨ H t = true) → β' l t = G.β l t) (h1 : Rel G s1 a w) {v v' : V} (ht : goes s H v = true → ∀ u, Ev.tree (s.frz v) v = some u → Ev.tree s1 v = some u) {p : Pl} {x : Value} (h : OwnC G w p v x) (hv : canonV s H v = some v') : OwnC { G with β := β' } w p v' x := by
 have kb : ∀ {lv t}, ¬(lv = s.lv ∧ H t = false) → ∀ {g}, G.β lv t = some g → β' lv t = some g := by
   intro lv t hn g hg
   rw [hβ lv t ?_]; exact hg
   by_cases e : lv = s.lv
   · right
     cases hm : H t with
     | true => rfl
     | false => exact absurd ⟨e, hm⟩ hn
   · exact .inl e
 unfold canonV at hv
 split at hv
 · rename_i lv t n
   have h' : Tr G.S G.β (.aref lv t n) x := h
   split at hv
   · rename_i hc
     have := ht (by simp [goes, hc.1, hc.2]) _ hv
     obtain ⟨k1, k2, k3, k4⟩ := tree_tr h1 h' this
     exact OwnC.of_tr (k1.pure _ k2)
   · rename_i hc
     obtain rfl := Option.some.inj hv
     obtain ⟨g, cap, hg, hcap, hx⟩ := h'.aref_inv
     rw [hx]
     exact OwnC.of_tr (Tr.aref lv t n g cap (kb hc hg) hcap)
 · rename_i lv t off
   have h' : Tr G.S G.β (.ptr lv t off) x := h
   split at hv
   · cases hv
   · rename_i hc
     obtain rfl := Option.some.inj hv
     obtain ⟨g, hg, hx⟩ := h'.ptr_inv
     rw [hx]
     exact OwnC.of_tr (Tr.ptr lv t off g (kb hc hg))
 · rename_i lv t n
   have h' : Tr G.S G.β (.oref lv t n) x := h
   split at hv
   · cases hv
   · rename_i hc
     obtain rfl := Option.some.inj hv
     obtain ⟨g, hg, hx⟩ := h'.oref_inv
     rw [hx]
     exact OwnC.of_tr (Tr.oref lv t n g (kb hc hg))
 · rename_i lv t
   have h' : Tr G.S G.β (.mp lv t) x := h
   split at hv
   · cases hv
   · rename_i hc
     obtain rfl := Option.some.inj hv
     obtain ⟨g, hg, hx⟩ := h'.mp_inv
     rw [hx]
     exact OwnC.of_tr (Tr.mp lv t g (kb hc hg))
 · rename_i l
   have h' : Tr G.S G.β (.agg l) x := h
   split at hv
   · rename_i hc
     obtain rfl := Option.some.inj hv
     refine OwnC.of_tr (h'.pure _ ?_)
     have := h'.view_eq
     simp only [V.view, V.agg.injEq] at this
     rw [this] at hc; exact hc
   · cases hv
 · rename_i l
   have h' : Tr G.S G.β (.imp l) x := h
   obtain rfl := Option.some.inj hv
   obtain ⟨b, o, c, hx, hp, hS, hT⟩ := h'.imp_inv
   rw [hx]
   exact OwnC.of_tr (Tr.imp l b o c hp hS fun j hj => (hT j hj).pure _ (pureC_flat (all_getD hp hj)))
 · rename_i sz l
   obtain rfl := Option.some.inj hv
   exact OwnC.pureβ h rfl _
 · rename_i f caps
   have h' : Tr G.S G.β (.fn f caps) x := h
   split at hv
   · rename_i hc
     obtain rfl := Option.some.inj hv
     cases h' with
     | fn _ _ cs hl hT =>
       refine OwnC.of_tr (Tr.fn f caps cs hl fun i hi => ?_)
       have hm : caps.getD i .undef ∈ caps := by
         rw [List.getD_eq_getElem?_getD, List.getElem?_eq_getElem hi]
         exact List.getElem_mem hi
       have h2 := List.all_eq_true.1 hc _ hm
       have h3 := hT i hi
       generalize caps.getD i .undef = c at h2 h3
       unfold heldP at h2
       split at h2
       · rename_i lv t off
         obtain ⟨g, hg, hx⟩ := h3.ptr_inv
         rw [hx]
         refine Tr.ptr lv t off g (kb (fun e => ?_) hg)
         rw [e.1, e.2] at h2
         simp at h2
       · exact h3.pure _ (pureC_flat h2)
   · cases hv
 · split at hv
   · rename_i hc
     obtain rfl := Option.some.inj hv
     exact h.pureβ (pure_outC hc) _
   · cases hv
theorem canonS (hβ : ∀ l t, (l ≠ s.lv ∨ H t = true) → β' l t = G.β l t) (h1 : Rel G s1 a w) {v v' : V} (ht : goes s H v = true → ∀ u, Ev.tree (s.frz v) v = some u → Ev.tree s1 v = some u) {p : Nat → Nat → Pl} {x : Value} (h : OwnS G w p v x) (hv : canonV s H v = some v') : OwnS { G with β := β' } w p v' x := by
 have hu : ∀ l, v ≠ .tup l := by rintro l rfl; simp [canonV, V.viewC, pureC] at hv
 by_cases hag : ∃ l, v = .agg l
 · obtain ⟨l, rfl⟩ := hag
   unfold canonV at hv
   dsimp only at hv
   split at hv
   · rename_i hc
     obtain rfl := Option.some.inj hv
     refine h.pureβ ?_ _
     show l.all V.outC = true
     rw [List.all_eq_true] at hc ⊢
     exact fun y hy => pure_outC (hc _ (List.mem_map.2 ⟨y, hy, rfl⟩))
   · cases hv
 · have ha : ∀ l, v ≠ .agg l := fun l e => hag ⟨l, e⟩
   rw [ownS_C ha hu] at h
   have := canonC hβ h1 ht h hv
   have ha' : ∀ l, v' ≠ .agg l := by
     rintro l rfl
     unfold canonV at hv
     split at hv
     · split at hv
       · rw [tree_frz] at hv
         split at hv
         · split at hv <;> cases hv
         · cases hv
       · cases hv
     · split at hv <;> cases hv
     · split at hv <;> cases hv
     · split at hv <;> cases hv
     · exact ha _ rfl
     · cases hv
     · cases hv
     · split at hv <;> cases hv
     · split at hv
       · obtain rfl := Option.some.inj hv; exact ha _ rfl
       · cases hv
   have hu' : ∀ l, v' ≠ .tup l := by
     rintro l rfl
     unfold canonV at hv
     split at hv
     · split at hv
       · rw [tree_frz] at hv
         split at hv
         · split at hv <;> cases hv
         · cases hv
       · cases hv
     · split at hv <;> cases hv
     · split at hv <;> cases hv
     · split at hv <;> cases hv
     · exact ha _ rfl
     · cases hv
     · cases hv
     · split at hv <;> cases hv
     · split at hv
       · obtain rfl := Option.some.inj hv; exact hu _ rfl
       · cases hv
   rw [ownS_C ha' hu']
   exact this
theorem canonV_low {v v' : V} {l : Nat} (hv : canonV s H v = some v') (hl : lowV l v = true) : lowV l v' = true := by
 unfold canonV at hv
 split at hv
 · split at hv
   · rw [tree_frz] at hv
     split at hv
     · split at hv
       · obtain rfl := Option.some.inj hv; rfl
       · cases hv
     · cases hv
   · obtain rfl := Option.some.inj hv; exact hl
 · split at hv
   · cases hv
   · obtain rfl := Option.some.inj hv; exact hl
 · split at hv
   · cases hv
   · obtain rfl := Option.some.inj hv; exact hl
 · split at hv
   · cases hv
   · obtain rfl := Option.some.inj hv; exact hl
 · split at hv
   · obtain rfl := Option.some.inj hv; exact hl
   · cases hv
 · obtain rfl := Option.some.inj hv; exact hl
 · obtain rfl := Option.some.inj hv; exact hl
 · split at hv
   · obtain rfl := Option.some.inj hv; exact hl
   · cases hv
 · split at hv
   · obtain rfl := Option.some.inj hv; exact hl
   · cases hv
end

theorem ObR.nobox {lv t g : Nat} {ob : Ob} (h : ObR G w lv t g ob) (hn : ∀ cs, ob ≠ .box cs) (hd : ∀ sz l, ob ≠ .dir sz l) (β' : Nat → Nat → Option Nat) : ObR { G with β := β' } w lv t g ob := by
 cases ob with
 | box cells => exact absurd rfl (hn _)
 | arr fz sz m =>
   obtain ⟨cs, ty, h1, h2, h3, h4, h5⟩ := h
   refine ⟨cs, ty, h1, h2, h3, fun i j hi hj => (h4 i j hi hj).pure _ ?_, h5⟩
   have hm : m.getD i .undef ∈ m := by
     rw [List.getD_eq_getElem?_getD, List.getElem?_eq_getElem hi]
     exact List.getElem_mem hi
   obtain ⟨k1, k2⟩ := h3 _ hm
   exact pureC_flat (all_getD k2 (by omega))
 | map es =>
   obtain ⟨en, ck, h1, h2, h3, h5, h4⟩ := h
   refine ⟨en, ck, h1, h2, h3, h5, fun i hi => ?_⟩
   have hm : es.getD i default ∈ es := by
     rw [List.getD_eq_getElem?_getD, List.getElem?_eq_getElem hi]
     exact List.getElem_mem hi
   exact ⟨(h4 i hi).1.pure _ (h5 _ hm).1, (h4 i hi).2.pure _ (h5 _ hm).2⟩
 | aru sz m =>
   obtain ⟨cs, ty, bs, h1, h2, h3, h4, h5, h6, h7⟩ := h
   exact ⟨cs, ty, bs, h1, h2, h3, h4, h5, h6, h7.mono (fun v x hp hT => hT.pure _ (pureC_flat hp)) fun _ _ => ⟨rfl, fun _ => rfl⟩⟩
 | dir sz m => exact absurd rfl (hd _ _)
theorem heldC_dir {H : Nat → Bool} {β' : Nat → Nat → Option Nat} (hβ : ∀ l t, (l ≠ s.lv ∨ H t = true) → β' l t = G.β l t) {v : V} {x : Value} (h : Tr G.S G.β v x) (hc : heldC s H v = true) : Tr G.S β' v x := by
 unfold heldC at hc
 split at hc
 · rename_i lv t n
   obtain ⟨g, cap, hg, hcap, hx⟩ := h.aref_inv
   rw [hx]
   refine Tr.aref lv t n g cap ?_ hcap
   rw [hβ lv t ?_]
   · exact hg
   · rcases Bool.or_eq_true _ _ ▸ hc with k | k
     · exact .inl (by simpa using k)
     · exact .inr k
 · exact h.pure _ (pureC_flat hc)
theorem canon_ok' {H : Nat → Bool} {ks objs : List Nat} {f : Nat → V} {g : Nat → Option Ob} (hr : Rel G s a w) (hlow : Low s) (hf : keepT s H ks = some f)
   (gb1 : ∀ t ob', g t = some ob' → H t = true ∧ ∃ ob, s.b t = some ob ∧ keepO s H ob = some ob' ∧ ∀ cs, ob = .box cs → t ∈ objs) (gb2 : ∀ t, H t = true → (g t).isSome = true ∨ s.b t = none) :
   ∃ G', Rel G' { s with t := f, b := g } a w ∧ Fr s.lv G w G' w ∧ Nx s { s with t := f, b := g } := by
 let cellsOf : Nat → List V := fun t => match s.b t with
   | some (.box cs) => cs
   | _ => []
 let vs : List V := ((ks.map s.t) ++ (objs.map cellsOf).flatten).filter (goes s H)
 have hvs : ∀ v ∈ vs, ∃ lv t n, v = .aref lv t n ∧ (lv = s.lv ∧ H t = false) := by
   intro v hv
   have := (List.mem_filter.1 hv).2
   cases v <;> try (cases this; done)
   rename_i lv t n
   simp [goes] at this
   exact ⟨lv, t, n, rfl, this⟩
 obtain ⟨G1, r1, st, th, tr⟩ := frzL_ok (p := fun lv t => lv = s.lv ∧ H t = false) vs hr hvs
 let β' : Nat → Nat → Option Nat := fun l t => if l = s.lv then (if (g t).isSome then G1.β l t else none) else G1.β l t
 have hlv : (frzL vs s).lv = s.lv := st.lv
 have hob1 : ∀ t, H t = true → (frzL vs s).ob s.lv t = s.b t := by
   intro t ht
   rcases th.ob s.lv t with e | ⟨⟨_, e⟩, _⟩
   · rw [e, ob_inner]
   · rw [ht] at e; cases e
 have hβ : ∀ l t, (l ≠ s.lv ∨ H t = true) → β' l t = G1.β l t := by
   intro l t hh
   show (if l = s.lv then (if (g t).isSome then G1.β l t else none) else G1.β l t) = _
   by_cases e : l = s.lv
   · rw [if_pos e]
     have ht : H t = true := hh.resolve_left fun k => k e
     rcases gb2 t ht with h | h
     · rw [h]; rfl
     · have hn : G1.β l t = none := by
         cases hk : G1.β l t with
         | none => rfl
         | some k =>
           obtain ⟨ob, ho⟩ := r1.dom l t k hk
           rw [e, hob1 t ht, h] at ho
           cases ho
       rw [hn]
       split <;> rfl
   · rw [if_neg e]
 have hob2 : ∀ l t, l ≠ s.lv → (frzL vs s).ob l t = s.ob l t := by
   intro l t hl
   rcases th.ob l t with e | ⟨⟨e, _⟩, _⟩
   · exact e
   · exact absurd e hl
 have hob' : ∀ l t, ({ s with t := f, b := g } : St).ob l t = if l = s.lv then g t else s.ob l t := by
   intro l t
   show (if l = s.o.length then g t else obIn t l s.o) = (if l = s.o.length then g t else (if l = s.o.length then s.b t else obIn t l s.o))
   by_cases e : l = s.o.length
   · rw [if_pos e, if_pos e]
   · rw [if_neg e, if_neg e, if_neg e]
 have hfr : Fr s.lv G1 w { G1 with β := β' } w := ⟨rfl, rfl, rfl, Nat.le_refl _, fun _ _ _ => ⟨rfl, rfl, fun _ => rfl⟩, fun _ _ _ h => h, fun l t hl => hβ l t (.inl (by omega))⟩
 refine ⟨{ G1 with β := β' }, ⟨by rw [r1.size]; exact st.n, r1.defers, fun t => ?_, fun l t ob ho => ?_, fun l t k hk => ?_, r1.imm, r1.lim⟩, st.fr.trans hfr, ⟨rfl, rfl, rfl, rfl, fun _ => ?_⟩⟩
 · show OwnS _ w (.tm s.lv t) (f t) _
   have h2 := r1.slot t
   rw [st.t, hlv] at h2
   rcases keepT_get hf t with h0 | ⟨hk, hcv⟩
   · rw [h0]; exact OwnS.of_tr' (.undef _)
   · refine canonS hβ r1 (fun hgo u hu => tr _ ?_ u hu) h2 hcv
     exact List.mem_filter.2 ⟨List.mem_append_left _ (List.mem_map.2 ⟨t, hk, rfl⟩), hgo⟩
 · rw [hob'] at ho
   split at ho
   · rename_i hl
     subst hl
     obtain ⟨hmm, ob0, hb0, hk0, hin⟩ := gb1 t ob ho
     obtain ⟨k, k1, k2, k3⟩ := r1.obj s.lv t ob0 (by rw [hob1 t hmm]; exact hb0)
     refine ⟨k, (hβ _ _ (.inr hmm)).trans k1, k2, ?_⟩
     cases ob0 with
     | box cs =>
       have hm := hin cs rfl
       obtain ⟨cs', hcs, rfl⟩ := Option.map_eq_some_iff.1 hk0
       obtain ⟨m1, m2⟩ := mapOpt_get hcs
       obtain ⟨en, ty, e1, e2, e3, e4⟩ := k3
       refine ⟨en, ty, e1, m1.trans e2, e3, fun j hj => ?_⟩
       have hj' : j < cs.length := by omega
       obtain ⟨y, y1, y2⟩ := m2 j cs[j] (List.getElem?_eq_getElem hj')
       have h4 := e4 j hj'
       have g1 : cs'.getD j .undef = y := by rw [List.getD_eq_getElem?_getD, y1]; rfl
       have g2 : cs.getD j .undef = cs[j] := by rw [List.getD_eq_getElem?_getD, List.getElem?_eq_getElem hj']; rfl
       rw [g1]
       rw [g2] at h4
       refine canonC hβ r1 (fun hgo u hu => tr _ ?_ u hu) h4 y2
       refine List.mem_filter.2 ⟨List.mem_append_right _ (List.mem_flatten.2 ⟨cs, List.mem_map.2 ⟨t, hm, ?_⟩, List.getElem_mem hj'⟩), hgo⟩
       simp only [cellsOf, hb0]
     | arr fz sz m =>
       obtain rfl := Option.some.inj hk0
       exact k3.nobox (fun cs e => by cases e) (fun _ _ e => by cases e) β'
     | map es =>
       obtain rfl := Option.some.inj hk0
       exact k3.nobox (fun cs e => by cases e) (fun _ _ e => by cases e) β'
     | aru sz m =>
       obtain rfl := Option.some.inj hk0
       exact k3.nobox (fun cs e => by cases e) (fun _ _ e => by cases e) β'
     | dir sz m =>
       have hk1 : (if (m.map V.flat).flatten.all (heldC s H) then some (Ob.dir sz m) else none) = some ob := hk0
       split at hk1
       · rename_i hall
         obtain rfl := Option.some.inj hk1
         obtain ⟨cs, ty, e1, e2, e3, e4, e5⟩ := k3
         refine ⟨cs, ty, e1, e2, e3, fun i j hi hj => heldC_dir hβ (e4 i j hi hj) ?_, e5⟩
         have hm : m.getD i .undef ∈ m := by
           rw [List.getD_eq_getElem?_getD, List.getElem?_eq_getElem hi]
           exact List.getElem_mem hi
         have hl := (e3 _ hm).1
         have hj' : j < (m.getD i .undef).flat.length := by omega
         refine List.all_eq_true.1 hall _ (List.mem_flatten.2 ⟨_, List.mem_map.2 ⟨_, hm, rfl⟩, ?_⟩)
         generalize (m.getD i .undef).flat = fl at hj' ⊢
         rw [List.getD_eq_getElem?_getD, List.getElem?_eq_getElem hj']
         exact List.getElem_mem hj'
       · cases hk1
   · rename_i hl
     obtain ⟨k, k1, k2, k3⟩ := r1.obj l t ob (by rw [hob2 l t hl]; exact ho)
     have hll : l < s.lv := by have := ob_lt ho; omega
     exact ⟨k, (hβ _ _ (.inl hl)).trans k1, k2, k3.low (hlow l t ob ho) fun i u q hi hq => (hβ _ _ (.inl (by omega))).trans hq⟩
 · have hk' : (if l = s.lv then (if (g t).isSome then G1.β l t else none) else G1.β l t) = some k := hk
   split at hk'
   · rename_i hl
     split at hk'
     · rename_i hs
       obtain ⟨ob, ho⟩ := Option.isSome_iff_exists.1 hs
       exact ⟨ob, by rw [hob', if_pos hl]; exact ho⟩
     · cases hk'
   · rename_i hl
     obtain ⟨ob, ho⟩ := r1.dom l t k hk'
     rw [hob2 l t hl] at ho
     exact ⟨ob, by rw [hob', if_neg hl]; exact ho⟩
 · intro l t ob ho
   rw [hob'] at ho
   split at ho
   · rename_i hl
     obtain ⟨hm, ob0, hb0, hk0, _⟩ := gb1 t ob ho
     have hlo := hlow s.lv t ob0 (by rw [ob_inner]; exact hb0)
     cases ob0 with
     | box cs =>
       obtain ⟨cs', hcs, rfl⟩ := Option.map_eq_some_iff.1 hk0
       obtain ⟨m1, m2⟩ := mapOpt_get hcs
       intro c hcm
       obtain ⟨j, hj, rfl⟩ := List.getElem_of_mem hcm
       have hj' : j < cs.length := by omega
       obtain ⟨y, y1, y2⟩ := m2 j cs[j] (List.getElem?_eq_getElem hj')
       rw [List.getElem?_eq_getElem hj] at y1
       obtain rfl := Option.some.inj y1
       rw [hl]
       exact canonV_low y2 (hlo _ (List.getElem_mem hj'))
     | arr fz sz m => obtain rfl := Option.some.inj hk0; trivial
     | map es => obtain rfl := Option.some.inj hk0; trivial
     | aru sz m => obtain rfl := Option.some.inj hk0; trivial
     | dir sz m =>
       have hk1 : (if (m.map V.flat).flatten.all (heldC s H) then some (Ob.dir sz m) else none) = some ob := hk0
       split at hk1
       · obtain rfl := Option.some.inj hk1
         rw [hl]
         exact hlo
       · cases hk1
   · exact hlow l t ob ho
theorem canon_ok {h : LoopHint} {s' : St} (hr : Rel G s a w) (hlow : Low s) (hc : canon s h = some s') : ∃ G', Rel G' s' a w ∧ Fr s.lv G w G' w ∧ Nx s s' := by
 unfold canon at hc
 generalize dirs s h.objs = D at hc
 cases D with
 | nil =>
   simp only [canonD] at hc
   split at hc
   · rename_i f g hf hg
     obtain rfl := Option.some.inj hc
     obtain ⟨gb1, gb2⟩ := keepB_get hg
     refine canon_ok' (objs := h.objs) hr hlow hf (fun t ob' ht => ?_) (fun t ht => .inl (gb2 t (memN_iff.1 (by rw [heldH_eq, famD_nil, Bool.or_false] at ht; exact ht))))
     obtain ⟨hm, ob0, hb0, hk0⟩ := gb1 t ob' ht
     exact ⟨by rw [heldH_eq, memN_iff.2 hm, Bool.true_or], ob0, hb0, hk0, fun _ _ => hm⟩
   · cases hc
 | cons d D =>
   simp only [canonD] at hc
   split at hc
   · rename_i f g hf hg
     split at hc
     · rename_i hF
       obtain rfl := Option.some.inj hc
       obtain ⟨gb1, gb2⟩ := keepB_get hg
       refine canon_ok' (objs := h.objs) hr hlow hf (fun t ob' ht => ?_) (fun t ht => ?_)
       · unfold famB at ht
         split at ht
         · rename_i hfa
           refine ⟨by rw [heldH_eq, hfa, Bool.or_true], ob', ht, ?_, fun cs e => ?_⟩
           · obtain ⟨sz, l, rfl, hl⟩ := hF t hfa ob' ht
             exact if_pos hl
           · obtain ⟨sz, l, rfl, hl⟩ := hF t hfa ob' ht
             cases e
         · obtain ⟨hm, ob0, hb0, hk0⟩ := gb1 t ob' ht
           exact ⟨by rw [heldH_eq, memN_iff.2 hm, Bool.true_or], ob0, hb0, hk0, fun _ _ => hm⟩
       · unfold famB
         split
         · rename_i hfa
           cases hb : s.b t with
           | none => exact .inr rfl
           | some ob => exact .inl rfl
         · rename_i hfa
           refine .inl (gb2 t (memN_iff.1 ?_))
           rw [heldH_eq] at ht
           rcases Bool.or_eq_true _ _ ▸ ht with k | k
           · exact k
           · exact absurd k hfa
     · cases hc
   · cases hc
end Go.Ev
namespace Go.Ev
open Go
variable {E : Env} {G : Gh} {s : St} {a : Act} {w : World}

def LowL (o : List (Nat → Option Ob)) : Prop := ∀ l t ob, obIn t l o = some ob → LowO l ob
theorem Low.outer (h : Low s) : LowL s.o := fun l t ob ho => h l t ob (by rw [ob_outer (obIn_lt _ ho)]; exact ho)
theorem Low.all (h : Low s) : LowL (s.b :: s.o) := fun l t ob ho => h l t ob ho

inductive Its : List It → List Item → Prop
 | nil : Its [] []
 | code {its k} (c : Code) : Its its k → Its (.code c :: its) (.code c :: k)
 | blk {its k} (id : Nat) : Its its k → Its (.blk id :: its) (.inBlock id :: k)
 | lp {its k} (c : Code) : Its its k → Its (.lp c :: its) (.inLoop c :: k)
theorem Its.exit {id : Nat} : ∀ {its its' : List It} {k : List Item}, Its its k → outOf id its = some its' → ∃ k', exitTo id k = some k' ∧ Its its' k' := by
 intro its
 induction its with
 | nil => intro its' k h hx; cases hx
 | cons i its ih =>
   intro its' k h hx
   cases h with
   | code c h =>
     obtain ⟨k', h1, h2⟩ := ih h hx
     exact ⟨k', by simpa [exitTo] using h1, h2⟩
   | lp c h =>
     obtain ⟨k', h1, h2⟩ := ih h hx
     exact ⟨k', by simpa [exitTo] using h1, h2⟩
   | blk j h =>
     unfold outOf at hx
     unfold exitTo
     by_cases e : j = id
     · rw [if_pos e] at hx
       obtain rfl := Option.some.inj hx
       exact ⟨_, by simp [e], h⟩
     · rw [if_neg e] at hx
       obtain ⟨k', h1, h2⟩ := ih h hx
       exact ⟨k', by simp [e, h1], h2⟩

def SoundN (E : Env) (n : Nat) : Prop := ∀ (its : List It) (s : St) (r : V × List (Nat → Option Ob)), evI E n its s = some r → Low s → ∀ fn, E.P.funcs[s.f]? = some fn → fn.results = s.r →
 ∀ (G : Gh) (a : Act) (w : World), Rel G s a w → ∀ k, Its its k → ∀ (b : Frame) (cs : List Frame), b.fn = s.f → b.kind = .normal →
   ∃ x w' fr G', Steps E.P (lone (b.at a k) cs w) (lone fr cs w') ∧ fr.fn = s.f ∧ fr.leaving E.P w' (.returned x) ∧ Done s.lv G w r.2 r.1 x w' G' ∧ LowL r.2

theorem Done.pre {lv : Nat} {G G1 G' : Gh} {w w1 w' : World} {o : List (Nat → Option Ob)} {v : V} {x : Value} (h : Done lv G1 w1 o v x w' G') (f : Fr lv G w G1 w1) : Done lv G w o v x w' G' :=
 ⟨h.own, f.trans h.fr, h.len, h.obj, h.dom, h.imm, h.lim⟩

theorem startS_spec {f : Nat} {args : List V} {outer : List (Nat → Option Ob)} {k0 : List It} {s0 : St} (h : startS E f args outer = some (k0, s0)) : ∃ fn c, E.P.funcs[f]? = some fn ∧ args.length ≤ fn.ntmps ∧ (fn.name == "runtime.NumGoroutine") = false ∧ fn.body = some c ∧ k0 = [.code c] ∧
   s0 = { t := argT 0 args, b := n0, o := outer, r := fn.results, f := f, n := fn.ntmps } := by
 unfold startS at h
 split at h
 · rename_i fn hf
   split at h
   · rename_i hc
     obtain ⟨c, hb, he⟩ := Option.map_eq_some_iff.1 h
     obtain ⟨rfl, rfl⟩ := Prod.mk.inj he
     exact ⟨fn, c, hf, hc.1, hc.2, hb, rfl, rfl⟩
   · cases h
 · cases h
theorem calls_ok {n : Nat} (hS : SoundN E n) {f : Nat} {args : List V} {cargs : Array Value} {outer : List (Nat → Option Ob)} {k0 : List It} {s0 : St} {r : V × List (Nat → Option Ob)} (h0 : startS E f args outer = some (k0, s0)) (hr : evI E n k0 s0 = some r)
   (hl : args.length = cargs.size) (hT : ∀ i, i < args.length → OwnS G w (Pl.tm outer.length i) (args.getD i .undef) (cargs.getD i Go.undef))
   (hobj : ∀ l t ob, obIn t l outer = some ob → ∃ g, G.β l t = some g ∧ G.ω g = some (.ob l t) ∧ ObR G w l t g ob) (hdom : ∀ l t g, G.β l t = some g → ∃ ob, obIn t l outer = some ob)
   (himm : ∀ g j c, G.S g j = some c → w.cell? ⟨g, j, none⟩ = some c) (hlim : ∀ g p, G.ω g = some p → g < w.heap.size) (hlow : LowL outer) :
   Calls E.P f cargs w fun e w' => ∃ x G', e = .returned x ∧ Done outer.length G w r.2 r.1 x w' G' ∧ LowL r.2 := by
 obtain ⟨fn, c, hf, hn, hname, hb, rfl, rfl⟩ := startS_spec h0
 intro cs
 have hrel := start_rel (r := fn.results) (f := f) hl hT hn hobj hdom himm hlim
 have hlow0 : Low { t := argT 0 args, b := n0, o := outer, r := fn.results, f := f, n := fn.ntmps } := by
   intro l t ob ho
   have ho' : (if l = outer.length then none else obIn t l outer) = some ob := ho
   split at ho'
   · cases ho'
   · exact hlow l t ob ho'
 let b : Frame := { (default : Frame) with fn := f, kind := .normal }
 obtain ⟨x, w', fr, G', h1, h2, h3, h4, h5⟩ := hS _ _ _ hr hlow0 fn hf rfl _ _ _ hrel [.code c] (.code c .nil) b cs rfl rfl
 have henter : Frame.enter E.P f cargs .normal = b.at { tmps := cargs ++ Array.replicate (fn.ntmps - cargs.size) undef, defers := [] } [.code c] := by
   simp [Frame.enter, Frame.at, hf, hb, b]
 refine ⟨.returned x, w', fr, ⟨x, G', rfl, h4, h5⟩, ?_, h2, h3⟩
 rw [henter]; exact h1

noncomputable abbrev stepO (E : Env) (n : Nat) (o : Oper) (s : St) : Option St := stepOV E (evI E n) o s
noncomputable def stepG (E : Env) (n : Nat) (all : Array Oper) (o : Oper) (s : St) : Option St := match o.guard with
 | none => stepO E n o s
 | some (j, want) => match ((all[j]?).bind (·.dst)).map s.t with
   | some (.bool b) => if b = want then stepO E n o s else some (s.putO o.dst (.tup []))
   | some (.tup []) => some (s.putO o.dst (.tup []))
   | _ => none
noncomputable def stepsO (E : Env) (n : Nat) (all : Array Oper) : List Oper → St → Option St
 | [], s => some s
 | o :: l, s => (stepG E n all o s).bind (stepsO E n all l)

theorem callOp_k (d : Option Nat) (f : Operand) (args : Array Operand) (tys : Array TypeId) (k : List It) (s : St) : (∃ s', callOp E d f args tys [] s = .go [] s' ∧ callOp E d f args tys k s = .go k s') ∨
   (∃ g vs outer plain s', callOp E d f args tys [] s = .call g vs outer plain d [] s' ∧ callOp E d f args tys k s = .call g vs outer plain d k s') ∨ (callOp E d f args tys [] s = .fail ∧ callOp E d f args tys k s = .fail) := by
 unfold callOp
 split
 · unfold callB
   split
   · split
     · exact .inr (.inl ⟨_, _, _, _, _, rfl, rfl⟩)
     · exact .inr (.inr ⟨rfl, rfl⟩)
   · exact .inr (.inr ⟨rfl, rfl⟩)
 split
 · unfold callL
   split
   · split
     · exact .inr (.inl ⟨_, _, _, _, _, rfl, rfl⟩)
     · exact .inr (.inr ⟨rfl, rfl⟩)
   · exact .inr (.inr ⟨rfl, rfl⟩)
 unfold callN
 split
 · split
   · split
     · exact .inr (.inl ⟨_, _, _, _, _, rfl, rfl⟩)
     · split
       · exact .inl ⟨_, rfl, rfl⟩
       · exact .inr (.inl ⟨_, _, _, _, _, rfl, rfl⟩)
   · exact .inr (.inr ⟨rfl, rfl⟩)
 · exact .inr (.inr ⟨rfl, rfl⟩)
theorem stepG_mono {n m : Nat} (h : n ≤ m) {all : Array Oper} {o : Oper} {s s' : St} (hs : stepG E n all o s = some s') : stepG E m all o s = some s' := by
 have hO : ∀ {s'}, stepO E n o s = some s' → stepO E m o s = some s' := fun hs => stepOV_mono (fun its s r hr => evI_le E h hr) hs
 unfold stepG at hs ⊢
 split
 · rename_i hg
   rw [hg] at hs
   exact hO hs
 · rename_i j want hg
   rw [hg] at hs
   dsimp only at hs
   split
   · rename_i b hb
     rw [hb] at hs
     dsimp only at hs
     by_cases e : b = want
     · rw [if_pos e] at hs ⊢; exact hO hs
     · rw [if_neg e] at hs ⊢; exact hs
   · rename_i hb
     rw [hb] at hs
     exact hs
   · rename_i h1 h2
     split at hs
     · rename_i e; exact absurd e (h1 _)
     · rename_i e; exact absurd e h2
     · exact hs
theorem stepsO_mono {n m : Nat} (h : n ≤ m) {all : Array Oper} : ∀ {l : List Oper} {s s' : St}, stepsO E n all l s = some s' → stepsO E m all l s = some s' := by
 intro l
 induction l with
 | nil => intro s s' hs; exact hs
 | cons o l ih =>
   intro s s' hs
   obtain ⟨s1, h1, h2⟩ := Option.bind_eq_some_iff.1 hs
   exact Option.bind_eq_some_iff.2 ⟨s1, stepG_mono h h1, ih h2⟩
theorem evI_ops {all : Array Oper} {k : List It} : ∀ {l : List Oper} {n : Nat} {s : St} {r}, evI E (n + 1) (.ops l all :: k) s = some r → ∃ s', stepsO E n all l s = some s' ∧ evI E n k s' = some r := by
 intro l
 induction l with
 | nil => intro n s r h; exact ⟨s, rfl, by simpa [evI, stepI] using h⟩
 | cons o l ih =>
   intro n s r h
   rw [evI] at h
   have fin : ∀ {s1 : St}, stepG E n all o s = some s1 → evI E n (.ops l all :: k) s1 = some r → ∃ s', stepsO E n all (o :: l) s = some s' ∧ evI E n k s' = some r := by
     intro s1 h1 h2
     cases n with
     | zero => simp [evI] at h2
     | succ n =>
       obtain ⟨s', h3, h4⟩ := ih h2
       exact ⟨s', Option.bind_eq_some_iff.2 ⟨s1, h1, stepsO_mono (Nat.le_succ n) h3⟩, evI_le E (Nat.le_succ n) h4⟩
   have run : ∀ out : Out, (out = match o.op with
     | .call { callee := .value f, args, argTypes } => callOp E o.dst f args argTypes (.ops l all :: k) s
     | _ => match evOp E.P (E.H s.f) o s with
       | some s' => .go (.ops l all :: k) s'
       | none => .fail) → (match out with
         | .go k s' => evI E n k s'
         | .done v o => some (v, o)
         | .fail => none
         | .draw ops c k s' => match drun E (evI E n) ops c s' [] with
           | some s2 => evI E n k s2
           | none => none
         | .call f args outer plain d k s' => match startS E f args outer with
           | none => none
           | some (k0, s0) => match evI E n k0 s0 with
             | none => none
             | some r => evI E n k (backS s' plain d r.1 r.2)) = some r → (∀ s1, stepO E n o s = some s1 → stepG E n all o s = some s1) → ∃ s', stepsO E n all (o :: l) s = some s' ∧ evI E n k s' = some r := by
     intro out ho hr hG
     subst ho
     split at hr
     · rename_i k2 s2 he
       split at he
       · rename_i f args argTypes hop
         rcases callOp_k (E := E) o.dst f args argTypes (.ops l all :: k) s with ⟨s', e1, e2⟩ | ⟨g, vs, outer, plain, s', e1, e2⟩ | ⟨e1, e2⟩
         · rw [e2] at he
           obtain ⟨rfl, rfl⟩ := Out.go.inj he
           exact fin (hG _ (by unfold stepO stepOV; rw [hop]; dsimp only; rw [e1]; rfl)) hr
         · rw [e2] at he; cases he
         · rw [e2] at he; cases he
       · rename_i hne
         split at he
         · rename_i s' hs'
           obtain ⟨rfl, rfl⟩ := Out.go.inj he
           refine fin (hG _ ?_) hr
           unfold stepO stepOV
           split
           · rename_i e; exact absurd e (hne _ _ _)
           · exact hs'
         · cases he
     · rename_i v o' he
       split at he
       · rename_i f args argTypes hop
         rcases callOp_k (E := E) o.dst f args argTypes (.ops l all :: k) s with ⟨s', e1, e2⟩ | ⟨g, vs, outer, plain, s', e1, e2⟩ | ⟨e1, e2⟩ <;> rw [e2] at he <;> cases he
       · split at he <;> cases he
     · cases hr
     · rename_i he
       split at he
       · rename_i f args argTypes hop
         rcases callOp_k (E := E) o.dst f args argTypes (.ops l all :: k) s with ⟨s', e1, e2⟩ | ⟨g, vs, outer, plain, s', e1, e2⟩ | ⟨e1, e2⟩ <;> rw [e2] at he <;> cases he
       · split at he <;> cases he
     · rename_i f2 args2 outer2 plain2 d2 k2 s2 he
       split at he
       · rename_i f args argTypes hop
         rcases callOp_k (E := E) o.dst f args argTypes (.ops l all :: k) s with ⟨s', e1, e2⟩ | ⟨g, vs, outer, plain, s', e1, e2⟩ | ⟨e1, e2⟩
         · rw [e2] at he; cases he
         · rw [e2] at he
           obtain ⟨rfl, rfl, rfl, rfl, rfl, rfl, rfl⟩ := Out.call.inj he
           split at hr
           · cases hr
           · rename_i k0 s0 h0
             split at hr
             · cases hr
             · rename_i r0 h1
               refine fin (hG _ ?_) hr
               unfold stepO stepOV
               rw [hop]
               dsimp only
               rw [e1]
               unfold evCallV
               dsimp only
               rw [h0]
               dsimp only
               rw [h1]
         · rw [e2] at he; cases he
       · split at he <;> cases he
   unfold stepI at h
   dsimp only at h
   cases hg : o.guard with
   | none =>
     rw [hg] at h
     exact run _ rfl h fun s1 hs1 => by unfold stepG; rw [hg]; exact hs1
   | some jw =>
     obtain ⟨j, want⟩ := jw
     rw [hg] at h
     dsimp only at h
     cases hv : ((all[j]?).bind (·.dst)).map s.t with
     | none => rw [hv] at h; cases h
     | some v =>
       rw [hv] at h
       cases v with
       | bool b =>
         dsimp only at h
         by_cases e : b = want
         · rw [if_pos e] at h
           exact run _ rfl h fun s1 hs1 => by unfold stepG; rw [hg]; dsimp only; rw [hv]; dsimp only; rw [if_pos e]; exact hs1
         · rw [if_neg e] at h
           exact fin (by unfold stepG; rw [hg]; dsimp only; rw [hv]; dsimp only; rw [if_neg e]) h
       | tup m =>
         cases m with
         | nil => exact fin (by unfold stepG; rw [hg]; dsimp only; rw [hv]) h
         | cons _ _ => cases h
       | _ => cases h
end Go.Ev
namespace Go.Ev
open Go
variable {E : Env} {G : Gh} {s : St} {a : Act} {w : World}

def OrcOk (E : Env) : Prop := ∀ g vs v, E.orc g vs = some v → vs.any isRef = false → ∃ fn c, E.P.funcs[g]? = some fn ∧ (fn.name == "runtime.NumGoroutine") = false ∧ fn.body = some c ∧
 ∀ (S : Nat → Nat → Option Value) (w : World) (cargs : Array Value), vs.length = cargs.size → (∀ i, i < vs.length → Tr S (fun _ _ => none) (vs.getD i .undef) (cargs.getD i Go.undef)) → (∀ g j c, S g j = some c → w.cell? ⟨g, j, none⟩ = some c) →
   Calls E.P g cargs w fun e w' => ∃ x G', e = .returned x ∧ Done 0 { S := S, β := fun _ _ => none, ω := fun _ => none } w [] v x w' G'

theorem run_callFunc {P : Program} {f : FuncId} {fn : Func} {c : Code} (hf : P.funcs[f]? = some fn) (hname : (fn.name == "runtime.NumGoroutine") = false) (hb : fn.body = some c) (args : Array Value) (w : World) :
   (callFunc f args).run P w = .ok (.enter f args) w := by
 have h1 : fn.name ≠ "runtime.NumGoroutine" := by simpa using hname
 simp [callFunc, hf, h1, hb]
theorem Rel.putO (hr : Rel G s a w) {d : Option Nat} (hd : d.all (fun d => decide (d < s.n)) = true) {v : V} {x : Value} (hv : OwnS G w Pl.rs v x) : ∃ G', Rel G' (s.putO d v) (a.put d x) w ∧ Fr s.lv G w G' w := by
 cases d with
 | none => exact ⟨G, hr, Fr.refl _ _ _⟩
 | some d =>
   obtain ⟨G', h1, h2, _⟩ := hr.put hv d (by simpa using hd)
   exact ⟨G', h1, h2⟩
theorem putO_any (s : St) (d : Option Nat) (v : V) (b : Nat → Option Ob) (o : List (Nat → Option Ob)) : ({ s with b := b, o := o } : St).putO d v = { s.putO d v with b := b, o := o } := by cases d <;> rfl

theorem stepO_ok {n : Nat} (hS : SoundN E n) (hO : OrcOk E) {o : Oper} {s' : St} (h : stepO E n o s = some s') (hr : Rel G s a w) (hlow : Low s) {K : Act → World → Prop} {Q : Exit → Act → World → Prop}
   (hK : ∀ x w' G', Rel G' s' (a.put o.dst x) w' → Nx s s' → Fr s.lv G w G' w' → K (a.put o.dst x) w') : o.wp E.P a w K Q := by
 unfold stepO stepOV at h
 split at h
 · rename_i f args argTypes hop
   have hzip0 : args.size = argTypes.size → (argTypes.toList.zip args.toList).map (fun x => a.eval x.2) = (args.map a.eval).toList := by
     intro hsz
     have hl : args.toList.length ≤ argTypes.toList.length := by simp [hsz]
     have h2 : (argTypes.toList.zip args.toList).map (fun x => a.eval x.2) = ((argTypes.toList.zip args.toList).map Prod.snd).map a.eval := by rw [List.map_map]; rfl
     rw [h2, List.map_snd_zip hl]
     simp
   have hfn : ∀ {g}, s.see E.P 0 f = .fn g [] → a.eval f = .func (.func g) #[] #[] := by
     intro g hf
     have hfun := hr.see E.P 0 f
     rw [hf] at hfun
     generalize a.eval f = u at hfun
     cases hfun with
     | fn _ _ cs hl hT => rw [show cs = #[] from Array.eq_empty_of_size_eq_zero (by simpa using hl.symm)]
   have henter0 : ∀ {g fn c}, a.eval f = .func (.func g) #[] #[] → E.P.funcs[g]? = some fn → (fn.name == "runtime.NumGoroutine") = false → fn.body = some c → (execOp a.eval o).run E.P w = .ok (.enter g (args.map a.eval)) w := by
     intro g fn c hfe h1 h2 h3
     simp only [execOp, hop, resolve, hfe, Deferred.ofValue, Sem.run_bind, Sem.run_pure, Result.andThen_ok, invoke]
     rw [run_callFunc h1 h2 h3]
     simp
   unfold callOp at h
   split at h
   · unfold callB at h
     split at h
     · rename_i g vs hf hpk
       split at h
       · rename_i hc
         obtain ⟨hsz, hd⟩ := hc
         obtain ⟨len1, t1⟩ := hr.peeks (fun _ _ => none) _ hpk
         have hvl : vs.length = (args.map a.eval).size := by rw [len1]; simp [hsz]
         have hT : ∀ i, i < vs.length → Tr (rowAt w) (fun _ _ => none) (vs.getD i .undef) ((args.map a.eval).getD i Go.undef) := by
           intro i hi
           have h1 := t1 i hi
           rw [hzip0 hsz] at h1
           rw [Array.getD_eq_getD_getElem?, ← Array.getElem?_toList, ← List.getD_eq_getElem?_getD]
           exact h1
         have himm : ∀ g j c, rowAt w g j = some c → w.cell? ⟨g, j, none⟩ = some c := by
           intro g j c hc
           unfold rowAt at hc
           split at hc
           · rename_i hh; simp only [World.cell?, hh]; exact hc
           · cases hc
         unfold evCallV at h
         dsimp only at h
         split at h
         · cases h
         · rename_i k0 s0 h0
           split at h
           · cases h
           · rename_i r hev
             obtain rfl := Option.some.inj h
             obtain ⟨fn, c, q1, q2, q3, q4, _, _⟩ := startS_spec h0
             unfold Oper.wp
             rw [henter0 (hfn hf) q1 q3 q4, Oper.upon_enter]
             refine (calls_ok (G := { S := rowAt w, β := fun _ _ => none, ω := fun _ => none }) hS h0 hev hvl (fun i hi => OwnS.of_tr' (hT i hi)) (fun l t ob ho => by cases ho) (fun l t g hg => by cases hg) himm (fun g p hp => by cases hp) (fun l t ob ho => by cases ho)).mono ?_
             rintro e w' ⟨x, G', rfl, hdone, hlo⟩
             obtain ⟨G2, m1, m2, m3⟩ := after_brw hr hdone
             obtain ⟨G3, p1, p2⟩ := m1.putO hd m2
             exact hK x w' G3 p1 (.putO _ _ _) (m3.trans p2)
       · cases h
     · cases h
   split at h
   · unfold callL at h
     split at h
     · rename_i g vs s1 hf hargs
       split at h
       · rename_i hc
         obtain ⟨hsz, hd⟩ := hc
         obtain ⟨G1, r1, f1, l1, len1, t1⟩ := hr.argRs E.P _ hargs
         have nx1 : Nx s s1 := .argRs _ hargs
         have hvl : vs.length = (args.map a.eval).size := by rw [len1]; simp [hsz]
         have hT : ∀ i, i < vs.length → OwnS G1 w (Pl.tm (s.lv + 1) i) (vs.getD i .undef) ((args.map a.eval).getD i Go.undef) := by
           intro i hi
           have h1 := t1 i hi
           rw [hzip0 hsz] at h1
           rw [Array.getD_eq_getD_getElem?, ← Array.getElem?_toList, ← List.getD_eq_getElem?_getD]
           exact h1
         have hd1 : o.dst.all (fun d => decide (d < s1.n)) = true := by rw [nx1.n]; exact hd
         unfold evCallV at h
         dsimp only at h
         split at h
         · cases h
         · rename_i k0 s0 h0
           split at h
           · cases h
           · rename_i r hev
             obtain rfl := Option.some.inj h
             obtain ⟨fn, c, q1, q2, q3, q4, _, _⟩ := startS_spec h0
             unfold Oper.wp
             rw [henter0 (hfn hf) q1 q3 q4, Oper.upon_enter]
             refine (calls_ok hS h0 hev hvl (fun i hi => (by rw [show (s1.b :: s1.o).length = s.lv + 1 from congrArg (· + 1) nx1.lv]; exact hT i hi)) (fun l t ob ho => r1.obj l t ob ho) (fun l t g hg => r1.dom l t g hg) r1.imm r1.lim (nx1.low hlow).all).mono ?_
             rintro e w' ⟨x, G', rfl, hdone, hlo⟩
             obtain ⟨G2, m1, m2, m3, m4⟩ := after_deep r1 hdone hlo
             have hlv2 : ({ s1 with b := r.2.headD n0, o := r.2.tail } : St).lv = s1.lv := by
               show r.2.tail.length = s1.lv
               rw [List.length_tail, hdone.len]; rfl
             obtain ⟨G2b, m1, m2, m6⟩ := m1.setl (setF E g o.dst s1) m2
             rw [hlv2] at m6
             replace m3 := m3.trans m6
             obtain ⟨G3, p1, p2⟩ := m1.putO hd1 m2
             rw [putO_any] at p1
             refine hK x w' G3 p1 ?_ ((f1.trans (nx1.lv ▸ m3)).trans (by rw [hlv2, nx1.lv] at p2; exact p2))
             refine nx1.trans ⟨?_, ?_, ?_, ?_, fun _ => ?_⟩
             · exact hlv2
             · exact (Nx.putO s1 o.dst (setl (setF E g o.dst s1) r.1)).r
             · exact (Nx.putO s1 o.dst (setl (setF E g o.dst s1) r.1)).f
             · exact (Nx.putO s1 o.dst (setl (setF E g o.dst s1) r.1)).n
             · exact m4
       · cases h
     · cases h
   unfold callN at h
   split at h
   · rename_i g caps vs s1 hf hargs
     split at h
     · rename_i hc
       obtain ⟨hsz, hd⟩ := hc
       have hfun := hr.see E.P 0 f
       rw [hf] at hfun
       obtain ⟨cs, hcl, hcT, hfe⟩ : ∃ cs : Array Value, caps.length = cs.size ∧ (∀ i, i < caps.length → Tr G.S G.β (caps.getD i .undef) (cs.getD i Go.undef)) ∧ a.eval f = .func (.func g) #[] cs := by
         generalize a.eval f = u at hfun
         cases hfun with
         | fn _ _ cs hl hT => exact ⟨cs, hl, hT, rfl⟩
       obtain ⟨G1, r1, f1, l1, len1, t1⟩ := hr.args E.P _ hargs
       have nx1 : Nx s s1 := .args _ hargs
       have hzip : (argTypes.toList.zip args.toList).map (fun x => a.eval x.2) = (args.map a.eval).toList := by
         have hl : args.toList.length ≤ argTypes.toList.length := by simp [hsz]
         have h2 : (argTypes.toList.zip args.toList).map (fun x => a.eval x.2) = ((argTypes.toList.zip args.toList).map Prod.snd).map a.eval := by rw [List.map_map]; rfl
         rw [h2, List.map_snd_zip hl]
         simp
       let cargs : Array Value := args.map a.eval ++ cs
       have hvl : vs.length = (args.map a.eval).size := by
         rw [len1]
         simp [hsz]
       have hlen : (vs ++ caps).length = cargs.size := by
         rw [List.length_append, hvl, hcl]
         simp [cargs]
       have hT : ∀ i, i < (vs ++ caps).length → Tr G1.S G1.β ((vs ++ caps).getD i .undef) (cargs.getD i Go.undef) := by
         intro i hi
         by_cases hlt : i < vs.length
         · have h1 := (t1 i hlt).1
           rw [hzip] at h1
           have e1 : (vs ++ caps).getD i .undef = vs.getD i .undef := by simp [List.getD_eq_getElem?_getD, List.getElem?_append_left hlt]
           have e2 : cargs.getD i Go.undef = (args.map a.eval).toList.getD i Go.undef := by
             simp only [cargs, Array.getD_eq_getD_getElem?]
             rw [Array.getElem?_append_left (by omega), List.getD_eq_getElem?_getD, Array.getElem?_toList]
           rw [e1, e2]; exact h1
         · have hi' : i - vs.length < caps.length := by rw [List.length_append] at hi; omega
           have h1 := l1.tr (hcT _ hi')
           have e1 : (vs ++ caps).getD i .undef = caps.getD (i - vs.length) .undef := by simp [List.getD_eq_getElem?_getD, List.getElem?_append_right (by omega : vs.length ≤ i)]
           have e2 : cargs.getD i Go.undef = cs.getD (i - vs.length) Go.undef := by
             simp only [cargs, Array.getD_eq_getD_getElem?]
             rw [Array.getElem?_append_right (by omega), hvl]
           rw [e1, e2]; exact h1
       have hpure : (vs ++ caps).any isRef = false → caps = [] → ∀ i, i < (vs ++ caps).length → Tr G1.S (fun _ _ => none) ((vs ++ caps).getD i .undef) (cargs.getD i Go.undef) := by
         intro hn hcn i hi
         refine (hT i hi).pure _ ?_
         have hm : (vs ++ caps).getD i .undef ∈ vs ++ caps := by
           rw [List.getD_eq_getElem?_getD, List.getElem?_eq_getElem hi]
           exact List.getElem_mem hi
         have hnr : isRef ((vs ++ caps).getD i .undef) = false := by
           cases hb : isRef ((vs ++ caps).getD i .undef) with
           | false => rfl
           | true => rw [List.any_eq_true.2 ⟨_, hm, hb⟩] at hn; cases hn
         by_cases hlt : i < vs.length
         · have e1 : (vs ++ caps).getD i .undef = vs.getD i .undef := by simp [List.getD_eq_getElem?_getD, List.getElem?_append_left hlt]
           rw [e1] at hnr ⊢
           exact (t1 i hlt).2 hnr
         · rw [List.length_append, hcn] at hi
           exact absurd (by simpa using hi) hlt
       have henter : ∀ {fn c}, E.P.funcs[g]? = some fn → (fn.name == "runtime.NumGoroutine") = false → fn.body = some c → (execOp a.eval o).run E.P w = .ok (.enter g cargs) w := by
         intro fn c h1 h2 h3
         simp only [execOp, hop, resolve, hfe, Deferred.ofValue, Sem.run_bind, Sem.run_pure, Result.andThen_ok, invoke]
         rw [run_callFunc h1 h2 h3]
         simp [cargs]
       have hst : ∀ g p, (fun _ => none : Nat → Option Pl) g = some p → g < w.heap.size := fun g p h => by cases h
       have hd1 : o.dst.all (fun d => decide (d < s1.n)) = true := by rw [nx1.n]; exact hd
       split at h
       · -- what is the caller's is handed over
         rename_i hany
         unfold evCallV at h
         dsimp only at h
         split at h
         · cases h
         · rename_i k0 s0 h0
           split at h
           · cases h
           · rename_i r hev
             obtain rfl := Option.some.inj h
             obtain ⟨fn, c, q1, q2, q3, q4, _, _⟩ := startS_spec h0
             unfold Oper.wp
             rw [henter q1 q3 q4, Oper.upon_enter]
             refine (calls_ok hS h0 hev hlen (fun i hi => OwnS.of_tr' (hT i hi)) (fun l t ob ho => r1.obj l t ob ho) (fun l t g hg => r1.dom l t g hg) r1.imm r1.lim (nx1.low hlow).all).mono ?_
             rintro e w' ⟨x, G', rfl, hdone, hlo⟩
             obtain ⟨G2, m1, m2, m3, m4⟩ := after_deep r1 hdone hlo
             have hlv2 : ({ s1 with b := r.2.headD n0, o := r.2.tail } : St).lv = s1.lv := by
               show r.2.tail.length = s1.lv
               rw [List.length_tail, hdone.len]; rfl
             obtain ⟨G2b, m1, m2, m6⟩ := m1.setl (setF E g o.dst s1) m2
             rw [hlv2] at m6
             replace m3 := m3.trans m6
             obtain ⟨G3, p1, p2⟩ := m1.putO hd1 m2
             rw [putO_any] at p1
             refine hK x w' G3 p1 ?_ ((f1.trans (nx1.lv ▸ m3)).trans (by rw [hlv2, nx1.lv] at p2; exact p2))
             refine nx1.trans ⟨?_, ?_, ?_, ?_, fun _ => ?_⟩
             · exact hlv2
             · exact (Nx.putO s1 o.dst (setl (setF E g o.dst s1) r.1)).r
             · exact (Nx.putO s1 o.dst (setl (setF E g o.dst s1) r.1)).f
             · exact (Nx.putO s1 o.dst (setl (setF E g o.dst s1) r.1)).n
             · exact m4
       · rename_i hany
         have hcn : caps = [] := by
           cases caps with
           | nil => rfl
           | cons _ _ => simp at hany
         have hany : (vs ++ caps).any isRef = false := by
           cases hb : (vs ++ caps).any isRef with
           | false => rfl
           | true => rw [hb] at hany; simp at hany
         split at h
         · rename_i v hv
           obtain rfl := Option.some.inj h
           obtain ⟨fn, c, q1, q3, q4, hcall⟩ := hO _ _ _ hv hany
           unfold Oper.wp
           rw [henter q1 q3 q4, Oper.upon_enter]
           refine (hcall G1.S w cargs hlen (hpure hany hcn) r1.imm).mono ?_
           rintro e w' ⟨x, G', rfl, hdone⟩
           obtain ⟨G2, m1, m2, m3⟩ := after_plain r1 hdone
           obtain ⟨G3, p1, p2⟩ := m1.putO hd1 m2
           exact hK x w' G3 p1 (nx1.trans (.putO _ _ _)) ((f1.trans (nx1.lv ▸ m3)).trans (nx1.lv ▸ p2))
         · unfold evCallV at h
           dsimp only at h
           split at h
           · cases h
           · rename_i k0 s0 h0
             split at h
             · cases h
             · rename_i r hev
               obtain rfl := Option.some.inj h
               obtain ⟨fn, c, q1, q2, q3, q4, _, _⟩ := startS_spec h0
               unfold Oper.wp
               rw [henter q1 q3 q4, Oper.upon_enter]
               refine (calls_ok (G := { S := G1.S, β := fun _ _ => none, ω := fun _ => none }) hS h0 hev hlen (fun i hi => OwnS.of_tr' (hpure hany hcn i hi)) (fun l t ob ho => by cases ho) (fun l t g hg => by cases hg) r1.imm (fun g p hp => by cases hp) (fun l t ob ho => by cases ho)).mono ?_
               rintro e w' ⟨x, G', rfl, hdone, hlo⟩
               obtain ⟨G2, m1, m2, m3⟩ := after_plain r1 hdone
               obtain ⟨G2b, m1, m2, m6⟩ := m1.setl (setF E g o.dst s1) m2
               replace m3 := m3.trans m6
               obtain ⟨G3, p1, p2⟩ := m1.putO hd1 m2
               exact hK x w' G3 p1 (nx1.trans (.putO _ _ _)) ((f1.trans (nx1.lv ▸ m3)).trans (nx1.lv ▸ p2))
     · cases h
   · cases h
 · unfold evOp at h
   split at h
   · rename_i d hd
     split at h
     · rename_i hlt
       obtain ⟨⟨v, s1⟩, hv, rfl⟩ := Option.map_eq_some_iff.1 h
       obtain ⟨x, w', G1, h1, h2, h3, h4⟩ := evV_ok (ty' := 0) (d := o.dst) (pos := o.pos) (af := o.after) (gd := o.guard) hr (fun hv => hr.thaw hlow hv) hv
       have nx1 : Nx s s1 := .evV hv
       obtain ⟨G2, p1, p2, _⟩ := h2.put h3 d (by rw [nx1.n]; exact hlt)
       unfold Oper.wp
       have he : (execOp a.eval o).run E.P w = .ok (.value x) w' := h1
       rw [he, Oper.upon_value]
       refine hK x w' G2 (by rw [hd]; exact p1) (nx1.trans (.put _ _ _)) (h4.trans (nx1.lv ▸ p2))
     · cases h
   · rename_i hd
     obtain ⟨w', G1, h1, h2, h3⟩ := evU_ok (d := o.dst) (ty := o.type) (pos := o.pos) (af := o.after) (gd := o.guard) hr h
     unfold Oper.wp
     have he : (execOp a.eval o).run E.P w = .ok .skip w' := h1
     rw [he, Oper.upon_skip]
     refine hK _ w' G1 (by rw [hd]; exact h2) (.evU h) h3
end Go.Ev
namespace Go.Ev
open Go
variable {P : Program} {E : Env} {s : St} {H : Hint}

theorem memN_app {x : Nat} {l m : List Nat} : memN x (l ++ m) = (memN x l || memN x m) := by
 induction l with
 | nil => rfl
 | cons a l ih => simp only [List.cons_append, memN]; split <;> simp [*]
theorem memN_tmpsOf {i : Nat} : ∀ {l : List Operand}, .tmp i ∈ l → memN i (tmpsOf l) = true := by
 intro l
 induction l with
 | nil => intro h; cases h
 | cons x l ih =>
   intro h
   rcases List.mem_cons.1 h with rfl | h
   · simp [tmpsOf, memN]
   · have := ih h
     cases x <;> simp only [tmpsOf, memN] <;> first | exact this | (split <;> first | rfl | exact this)
def Agr (F : List Nat) (t t2 : Nat → V) : Prop := ∀ x, memN x F = true → t2 x = t x
def alt (s : St) (t : Nat → V) (b : Nat → Option Ob) (o : List (Nat → Option Ob)) : St := { s with t := t, b := b, o := o }
section
variable {t2 : Nat → V} {b2 : Nat → Option Ob} {o2 : List (Nat → Option Ob)}
theorem see_alt {s2 : St} {ty : TypeId} {x : Operand} (h : ∀ i, x = .tmp i → s2.t i = s.t i) : s2.see P ty x = s.see P ty x := by
 cases x with
 | tmp i => simp only [St.see]; rw [h i rfl]
 | _ => rfl
theorem all_alt {s2 : St} {ty : TypeId} {x : Operand} (h : ∀ i, x = .tmp i → s2.t i = s.t i) : s2.all P ty x = s.all P ty x := by
 cases x with
 | tmp i => simp only [St.all]; rw [h i rfl]
 | _ => rfl
theorem isRef_see (ty ty' : TypeId) (x : Operand) : isRef (s.see P ty x) = isRef (s.see P ty' x) := by
 cases x with
 | tmp i => rfl
 | const v =>
   have : ∀ ty, isRef (cst P ty v).view = false := by
     intro ty
     unfold cst
     split <;> rfl
   simp only [St.see, rd]
   rw [this, this]
 | func f => rfl
 | global g => rfl
theorem tree_nonref (s s2 : St) {v : V} (h : isRef v = false) : s.frz v = s ∧ Ev.tree s v = Ev.tree s2 v := by
 cases v <;> first | exact ⟨rfl, rfl⟩ | cases h
theorem St.tree_non {ty : TypeId} {x : Operand} (h : isRef (s.see P 0 x) = false) : s.tree P ty x = (Ev.tree s (s.see P ty x)).map (·, s) := by
 have h' : isRef (s.see P ty x) = false := by rw [isRef_see ty 0]; exact h
 unfold St.tree
 dsimp only
 rw [(tree_nonref s s h').1]
theorem St.arg_non {ty : TypeId} {x : Operand} (h : isRef (s.see P 0 x) = false) : s.arg P ty x = (Ev.tree s (s.see P ty x)).map (·, s) := by
 have h' : isRef (s.see P ty x) = false := by rw [isRef_see ty 0]; exact h
 have h2 := St.tree_non (ty := ty) h
 unfold St.arg
 split
 · rename_i e; rw [e] at h'; cases h'
 · rename_i e; rw [e] at h'; cases h'
 · rename_i f c e
   rw [e] at h' ⊢
   cases c with
   | nil => rfl
   | cons _ _ => cases h'
 · exact h2
theorem trees_non : ∀ (xs : List (TypeId × Operand)), (xs.all fun x => !isRef (s.see P 0 x.2)) = true → St.trees P s xs = (mapOpt (fun x => Ev.tree s (s.see P x.1 x.2)) xs).map (·, s) := by
 intro xs
 induction xs with
 | nil => intro _; rfl
 | cons x xs ih =>
   intro h
   simp only [List.all_cons, Bool.and_eq_true, Bool.not_eq_true'] at h
   obtain ⟨ty, x⟩ := x
   unfold St.trees
   rw [St.tree_non h.1]
   unfold mapOpt
   dsimp only
   cases Ev.tree s (s.see P ty x) with
   | none => rfl
   | some v =>
     dsimp only [Option.map]
     rw [ih (by simpa using h.2)]
     cases mapOpt (fun x => Ev.tree s (s.see P x.1 x.2)) xs <;> rfl
theorem args_non : ∀ (xs : List (TypeId × Operand)), (xs.all fun x => !isRef (s.see P 0 x.2)) = true → St.args P s xs = (mapOpt (fun x => Ev.tree s (s.see P x.1 x.2)) xs).map (·, s) := by
 intro xs
 induction xs with
 | nil => intro _; rfl
 | cons x xs ih =>
   intro h
   simp only [List.all_cons, Bool.and_eq_true, Bool.not_eq_true'] at h
   obtain ⟨ty, x⟩ := x
   unfold St.args
   rw [St.arg_non h.1]
   unfold mapOpt
   dsimp only
   cases Ev.tree s (s.see P ty x) with
   | none => rfl
   | some v =>
     dsimp only [Option.map]
     rw [ih (by simpa using h.2)]
     cases mapOpt (fun x => Ev.tree s (s.see P x.1 x.2)) xs <;> rfl
theorem mapOpt_congr {α β : Type} {f g : α → Option β} : ∀ {l : List α}, (∀ x ∈ l, f x = g x) → mapOpt f l = mapOpt g l := by
 intro l
 induction l with
 | nil => intro _; rfl
 | cons a l ih =>
   intro h
   unfold mapOpt
   rw [h a List.mem_cons_self, ih fun x hx => h x (List.mem_cons_of_mem _ hx)]
theorem treesV_alt {s2 : St} {xs : List (TypeId × Operand)} (hn : (xs.all fun x => !isRef (s.see P 0 x.2)) = true) (h : ∀ i, .tmp i ∈ xs.map Prod.snd → s2.t i = s.t i) :
   (xs.all fun x => !isRef (s2.see P 0 x.2)) = true ∧ mapOpt (fun x => Ev.tree s2 (s2.see P x.1 x.2)) xs = mapOpt (fun x => Ev.tree s (s.see P x.1 x.2)) xs := by
 have hs : ∀ x ∈ xs, ∀ ty, s2.see P ty x.2 = s.see P ty x.2 := fun x hx ty => see_alt fun i hi => h i (List.mem_map.2 ⟨x, hx, hi⟩)
 refine ⟨?_, mapOpt_congr fun x hx => ?_⟩
 · rw [List.all_eq_true] at hn ⊢
   intro x hx
   rw [hs x hx]
   exact hn x hx
 · rw [hs x hx]
   have := List.all_eq_true.1 hn x hx
   simp only [Bool.not_eq_true'] at this
   exact (tree_nonref s2 s (by rw [isRef_see x.1 0]; exact this)).2
theorem drop_t (x : Operand) : (s.drop x).t = fun i => if memN i (tmpsOf [x]) then (s.t i).view else s.t i := by
 funext i
 cases x with
 | tmp j =>
   show upd s.t j _ i = _
   simp only [upd, tmpsOf, memN]
   by_cases e : i = j
   · subst e; simp
   · simp [e]
 | _ => simp [St.drop, tmpsOf, memN]
theorem buildF_alt (fs : Array Field) : ∀ (ps : List (Nat × Operand)) {s s2 : St} {cs : List V}, (∀ i, .tmp i ∈ ps.map Prod.snd → s2.t i = s.t i) → (buildF P fs s2 cs ps).map Prod.fst = (buildF P fs s cs ps).map Prod.fst := by
 intro ps
 induction ps with
 | nil => intro s s2 cs _; rfl
 | cons p ps ih =>
   intro s s2 cs h
   obtain ⟨i, x⟩ := p
   unfold buildF
   cases fs[i]? with
   | none => rfl
   | some f =>
     dsimp only
     have h1 : s2.all P f.type x = s.all P f.type x := all_alt fun j hj => h j (by rw [← hj]; exact List.mem_cons_self)
     rw [h1]
     split
     · split
       all_goals try rfl
       · refine ih fun j hj => ?_
         rw [drop_t, drop_t]
         dsimp only
         rw [h j (List.mem_cons_of_mem _ hj)]
     · rfl
theorem buildF_st (fs : Array Field) : ∀ (ps : List (Nat × Operand)) {s s1 : St} {cs cs1 : List V}, buildF P fs s cs ps = some (cs1, s1) → s1 = { s with t := fun x => if memN x (tmpsOf (ps.map Prod.snd)) then (s.t x).view else s.t x } := by
 intro ps
 induction ps with
 | nil => intro s s1 cs cs1 h; obtain ⟨_, rfl⟩ := Prod.mk.inj (Option.some.inj h); rfl
 | cons p ps ih =>
   intro s s1 cs cs1 h
   obtain ⟨i, x⟩ := p
   unfold buildF at h
   split at h
   · dsimp only at h
     split at h
     · split at h
       · cases h
       · cases h
       · rw [ih h]
         have hd : s.drop x = { s with t := (s.drop x).t } := by unfold St.drop; split <;> rfl
         rw [hd]
         congr 1
         funext j
         dsimp only
         rw [drop_t]
         have e2 : memN j (tmpsOf (List.map Prod.snd ((i, x) :: ps))) = (memN j (tmpsOf [x]) || memN j (tmpsOf (List.map Prod.snd ps))) := by
           cases x <;> simp [tmpsOf, memN]
           try (split <;> simp)
         rw [e2]
         by_cases h1 : memN j (tmpsOf [x]) = true <;> by_cases h2 : memN j (tmpsOf (List.map Prod.snd ps)) = true <;> simp [h1, h2, V.view_view]
     · cases h
   · cases h
theorem handAll_alt (e : TypeId) : ∀ (xs : List Operand) {s s2 : St}, (∀ i, .tmp i ∈ xs → s2.t i = s.t i) → (handAll P e s2 xs).map Prod.fst = (handAll P e s xs).map Prod.fst := by
 intro xs
 induction xs with
 | nil => intro s s2 _; rfl
 | cons x xs ih =>
   intro s s2 h
   unfold handAll
   have h1 : s2.all P e x = s.all P e x := all_alt fun j hj => h j (by rw [← hj]; exact List.mem_cons_self)
   rw [h1]
   have h2 := ih (s := s.drop x) (s2 := s2.drop x) fun j hj => by
     rw [drop_t, drop_t]
     dsimp only
     rw [h j (List.mem_cons_of_mem _ hj)]
   split
   · rfl
   · rfl
   · cases e1 : handAll P e (s2.drop x) xs with
     | none =>
       rw [e1] at h2
       cases e2 : handAll P e (s.drop x) xs with
       | none => rfl
       | some r => rw [e2] at h2; cases h2
     | some r =>
       rw [e1] at h2
       cases e2 : handAll P e (s.drop x) xs with
       | none => rw [e2] at h2; cases h2
       | some r2 =>
         rw [e2] at h2
         have h3 : r.1 = r2.1 := Option.some.inj h2
         show some (_ :: r.1) = some (_ :: r2.1)
         rw [h3]
theorem handAll_st (e : TypeId) : ∀ (xs : List Operand) {s s1 : St} {vs : List V}, handAll P e s xs = some (vs, s1) → s1 = { s with t := fun x => if memN x (tmpsOf xs) then (s.t x).view else s.t x } := by
 intro xs
 induction xs with
 | nil => intro s s1 vs h; obtain ⟨_, rfl⟩ := Prod.mk.inj (Option.some.inj h); rfl
 | cons x xs ih =>
   intro s s1 vs h
   unfold handAll at h
   split at h
   · cases h
   · cases h
   · split at h
     · rename_i h1
       obtain ⟨_, rfl⟩ := Prod.mk.inj (Option.some.inj h)
       rw [ih h1]
       have hd : s.drop x = { s with t := (s.drop x).t } := by unfold St.drop; split <;> rfl
       rw [hd]
       congr 1
       funext j
       dsimp only
       rw [drop_t]
       have e2 : memN j (tmpsOf (x :: xs)) = (memN j (tmpsOf [x]) || memN j (tmpsOf xs)) := by
         cases x <;> simp [tmpsOf, memN]
         try (split <;> simp)
       rw [e2]
       by_cases h1 : memN j (tmpsOf [x]) = true <;> by_cases h2 : memN j (tmpsOf xs) = true <;> simp [h1, h2, V.view_view]
     · cases h
end
end Go.Ev
