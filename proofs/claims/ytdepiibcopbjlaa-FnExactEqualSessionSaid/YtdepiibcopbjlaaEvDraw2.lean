/- A region whose order is drawn. -/
import Derived.Test.YtdepiibcopbjlaaEvDraw
import Derived.Test.YtdepiibcopbjlaaEvSound3
namespace Go.Ev
open Go
set_option linter.unusedVariables false
set_option linter.unusedSimpArgs false
variable {E : Env} {G : Gh} {s : St} {a : Act} {w : World} {all : Array Oper}

theorem op_extractR {P : Program} {d : Option Nat} {ty : TypeId} {pos : String} {af : Array Edge} {gd : Option (Nat × Bool)} {u i : Nat} {l : List V} {v : V} (h : Rel G s a w) (hu : s.t u = .tup l) (hv : l[i]? = some v) : OpOk P ⟨d, .extract (.tmp u) i, ty, pos, af, gd⟩ G s a w v.view s := by
  have h1 := h.slot u
  rw [hu] at h1
  obtain ⟨vs, hx, hl, hT⟩ := h1
  have hi : i < l.length := by
    rcases Nat.lt_or_ge i l.length with h' | h'
    · exact h'
    · rw [List.getElem?_eq_none h'] at hv; cases hv
  have hiv : i < vs.size := by omega
  have hvi : l.getD i .undef = v := by rw [List.getD_eq_getElem?_getD, hv]; rfl
  have h2 := hT i hi
  rw [hvi] at h2
  refine OpOk.tr h (x := vs.getD i Go.undef) ?_ (h2.view fun m e => by rw [e] at h2; exact h2.tup)
  simp only [execOp, Act.eval, hx]
  refine run_val ?_
  simp [Instr.extract, hiv, Array.getD]

theorem dstep_ok {n : Nat} (hS : SoundN E n) (hO : OrcOk E) {i : Nat} {done d1 : List (Nat × V)} {s1 : St} {o : Oper} (ho : all[i]? = some o) (h : dstep E (evI E n) all i s done = some (s1, d1)) (hr : Rel G s a w) (hlow : Low s) {K : Act → World → Prop} {Q : Exit → Act → World → Prop}
    (hK : ∀ a' w' G', Rel G' s1 a' w' → Nx s s1 → Fr s.lv G w G' w' → K a' w') : if Region.wanted o (yielded all a.tmps) then o.wp E.P a w K Q ∨ (o.asks E.P a w ∧ LetsOut Q) else K (a.put o.dst undef) w := by
  have viaG : stepG E n all o s = some s1 → if Region.wanted o (yielded all a.tmps) then o.wp E.P a w K Q ∨ (o.asks E.P a w ∧ LetsOut Q) else K (a.put o.dst undef) w := fun hg => stepG_ok hS hO hg hr hlow hK
  have skipG : guardS all o s = some false → s1 = s.putO o.dst (.tup []) → stepG E n all o s = some s1 := by
    rintro hg rfl
    unfold guardS at hg
    unfold stepG
    split at hg
    · cases hg
    · rename_i j want hgd
      split at hg
      · rename_i b hb
        have : ¬ b = want := by
          have := Option.some.inj hg
          simpa using this
        simp only [hgd, hb]
        rw [if_neg this]
      · rename_i hb
        simp only [hgd, hb]
      · cases hg
  have goG : guardS all o s = some true → stepO E n o s = some s1 → stepG E n all o s = some s1 := by
    intro hg hs
    unfold guardS at hg
    unfold stepG
    split at hg
    · rename_i hgd
      simp only [hgd]
      exact hs
    · rename_i j want hgd
      split at hg
      · rename_i b hb
        have : b = want := by
          have := Option.some.inj hg
          simpa using this
        simp only [hgd, hb]
        rw [if_pos this]
        exact hs
      · cases hg
      · cases hg
  have wantT : guardS all o s = some true → Region.wanted o (yielded all a.tmps) = true := by
    intro hg
    unfold guardS at hg
    split at hg
    · rename_i hgd
      unfold Region.wanted; rw [hgd]
    · rename_i j want hgd
      split at hg
      · rename_i b hb
        have := (wanted_of hr hgd hb).1 b rfl
        rw [this]
        exact Option.some.inj hg
      · cases hg
      · cases hg
  unfold dstep at h
  rw [ho] at h
  dsimp only at h
  cases hg : guardS all o s with
  | none => rw [hg] at h; cases h
  | some g =>
    rw [hg] at h
    cases g with
    | false =>
      dsimp only at h
      obtain ⟨h1, _⟩ := Prod.mk.inj (Option.some.inj h)
      exact viaG (skipG hg h1.symm)
    | true =>
      dsimp only at h
      by_cases hx : isX E.P (E.H s.f) o = true
      · rw [if_pos hx] at h
        by_cases hd : (dynX E.P o s && inDst s o) = true
        · rw [if_pos hd] at h
          simp only [Bool.and_eq_true] at hd
          obtain ⟨v, hv, he⟩ := Option.map_eq_some_iff.1 h
          obtain ⟨rfl, _⟩ := Prod.mk.inj he
          by_cases hex : ∃ u i, o.op = .extract u i
          · obtain ⟨u0, j, hop⟩ := hex
            obtain ⟨u, rfl⟩ : ∃ u, u0 = .tmp u := by
              cases u0 with
              | tmp u => exact ⟨u, rfl⟩
              | _ =>
                exfalso
                unfold xval at hv
                rw [hop] at hv
                dsimp only at hv
                unfold evV at hv
                cases hv
            rw [if_pos (wantT hg)]
            left
            obtain ⟨d, hdst⟩ := isX_dst hx
            unfold xval at hv
            rw [hop] at hv
            dsimp only at hv
            split at hv
            · rename_i l hu
              obtain ⟨v0, hv0, rfl⟩ := Option.map_eq_some_iff.1 hv
              obtain ⟨x, w', G1, h1, h2, h3, h4⟩ := op_extractR (P := E.P) (d := o.dst) (ty := o.type) (pos := o.pos) (af := o.after) (gd := o.guard) (i := j) hr hu hv0
              have hlt : d < s.n := by
                have := hd.2
                unfold inDst at this
                rw [hdst] at this
                simpa using this
              obtain ⟨G2, p1, p2, _⟩ := h2.put h3 d hlt
              have hD : drops (E.H s.f) o = [] := by unfold drops; rw [hop]
              have hset : s.setX (E.H s.f) o v0.view = s.put d v0.view := by rw [setX_eq, hD, hdst]; rfl
              rw [hset] at hK
              unfold Oper.wp
              have he : (execOp a.eval o).run E.P w = .ok (.value x) w' := by
                rw [← hop] at h1
                exact h1
              rw [he, Oper.upon_value]
              exact hK _ w' G2 (by rw [hdst]; exact p1) (.put _ _ _) (h4.trans p2)
            · cases hv
          · exact viaG (goG hg (xval_step hx hd.1 hd.2 hv fun u j e => hex ⟨u, j, e⟩))
        · rw [if_neg hd] at h; cases h
      · rw [if_neg hx] at h
        by_cases hl : isL (E.H s.f) o = true
        · rw [if_pos hl] at h
          by_cases hd : inDst s o = true
          · rw [if_pos hd] at h
            obtain ⟨v, hv, he⟩ := Option.map_eq_some_iff.1 h
            obtain ⟨rfl, _⟩ := Prod.mk.inj he
            exact viaG (goG hg (lval_step hl hd hv))
          · rw [if_neg hd] at h; cases h
        · rw [if_neg hl] at h
          split at h
          · rename_i s2 h1
            split at h
            · obtain ⟨rfl, _⟩ := Prod.mk.inj (Option.some.inj h)
              exact viaG (goG hg h1)
            · cases h
          · cases h

theorem listed_set {listed : Array Bool} {i j : Nat} (h : i < listed.size) : (listed.setIfInBounds i true).getD j false = (listed.getD j false || j == i) := by
  by_cases e : i = j
  · subst e; simp [h]
  · rw [getD_set_ne false e]
    have : (j == i) = false := by simp; exact fun h => e h.symm
    rw [this, Bool.or_false]
theorem draw_wp {n : Nat} (hS : SoundN E n) (hO : OrcOk E) {H : Hint} {rank : Nat → Nat} {Q : Exit → Act → World → Prop} : ∀ (m : Nat) {c : List Nat} {listed : Array Bool} {G : Gh} {s s' : St} {a : Act} {w : World} {done : List (Nat × V)}, c.length = m → drun E (evI E n) all c s done = some s' → Rel G s a w → Low s → E.H s.f = H →
    listed.size = all.size → (∀ i, i ∈ c ↔ (i < all.size ∧ listed.getD i false = false)) → c.Nodup → Closed all listed → (∀ i ∈ c, ∀ o, all[i]? = some o → ∀ e ∈ edges o, e < all.size ∧ rank e < rank i) → c.Pairwise (Fit E H all) → (∀ i ∈ c, selfOk H all i = true) → Held E H all done c →
    (∀ a' w' G', Rel G' s' a' w' → Nx s s' → Fr s.lv G w G' w' → Q .normal a' w') → wpAny E.P .any all Q m listed a w := by
  intro m
  induction m with
  | zero =>
    intro c listed G s s' a w done hm h hr hlow hH hsz hc hnd hcl hlin hpw hself hheld hQ
    obtain rfl : c = [] := List.eq_nil_of_length_eq_zero hm
    obtain rfl := Option.some.inj h
    refine ⟨?_, hQ a w G hr (.refl _) (Fr.refl _ _ _)⟩
    refine List.eq_nil_iff_forall_not_mem.2 fun i hi => ?_
    rw [mem_ready] at hi
    obtain ⟨h0, o, ho, _⟩ := hi
    have hlt := (Array.getElem?_eq_some_iff.1 ho).1
    have : i ∈ ([] : List Nat) := (hc i).2 ⟨hlt, by
      have e : i < listed.size := by omega
      simp [e] at h0 ⊢; exact h0⟩
    cases this
  | succ m ih =>
    intro c listed G s s' a w done hm h hr hlow hH hsz hc hnd hcl hlin hpw hself hheld hQ
    have hready : ∀ i, i ∈ Region.ready .any all listed → i ∈ c ∧ ∃ o, all[i]? = some o ∧ ∀ e ∈ edges o, listed.getD e false = true := by
      intro i hi
      rw [mem_ready] at hi
      obtain ⟨h0, o, ho, he⟩ := hi
      have hlt := (Array.getElem?_eq_some_iff.1 ho).1
      refine ⟨(hc i).2 ⟨hlt, by
        have e : i < listed.size := by omega
        simp [e] at h0 ⊢; exact h0⟩, o, ho, fun e hm' => ?_⟩
      obtain ⟨e', h1, h2, rfl⟩ := edges_inv hm'
      exact he e' h1 h2
    refine ⟨fun hnone => ?_, fun i hi => ?_⟩
    · -- one is always ready
      exfalso
      have none : ∀ r i, i ∈ c → rank i ≤ r → False := by
        intro r
        induction r with
        | zero =>
          intro i hi hrk
          have : i ∈ Region.ready .any all listed := by
            rw [mem_ready]
            obtain ⟨hlt, hlf⟩ := (hc i).1 hi
            refine ⟨?_, all[i], Array.getElem?_eq_getElem hlt, fun e he hb => ?_⟩
            · have e : i < listed.size := by omega
              simp [e] at hlf ⊢; exact hlf
            · have := (hlin i hi _ (Array.getElem?_eq_getElem hlt) _ (edges_mem he hb)).2
              omega
          rw [hnone] at this; cases this
        | succ r ihr =>
          intro i hi hrk
          obtain ⟨hlt, hlf⟩ := (hc i).1 hi
          by_cases hall : ∀ e ∈ edges all[i], listed.getD e false = true
          · have : i ∈ Region.ready .any all listed := by
              rw [mem_ready]
              refine ⟨?_, all[i], Array.getElem?_eq_getElem hlt, fun e he hb => hall _ (edges_mem he hb)⟩
              have e : i < listed.size := by omega
              simp [e] at hlf ⊢; exact hlf
            rw [hnone] at this; cases this
          · obtain ⟨e, he, hne⟩ : ∃ e, e ∈ edges all[i] ∧ ¬ listed.getD e false = true := Classical.byContradiction fun hx => hall fun e he => Classical.byContradiction fun hy => hx ⟨e, he, hy⟩
            obtain ⟨h1, h2⟩ := hlin i hi _ (Array.getElem?_eq_getElem hlt) e he
            exact ihr e ((hc e).2 ⟨h1, by simpa using hne⟩) (by omega)
      obtain ⟨i, hi⟩ : ∃ i, i ∈ c := by
        cases c with
        | nil => cases hm
        | cons i c => exact ⟨i, List.mem_cons_self⟩
      exact none _ i hi (Nat.le_refl _)
    · obtain ⟨hic, o, ho, hed⟩ := hready i hi
      have hlt := (Array.getElem?_eq_some_iff.1 ho).1
      have hil : i < listed.size := by omega
      obtain ⟨pre, post, rfl⟩ := List.append_of_mem hic
      subst hH
      have hpw2 := List.pairwise_append.1 hpw
      have hnprec : ∀ b, b ∈ pre ++ i :: post → prec all all.size b i = false := by
        intro b hb
        cases e : prec all all.size b i with
        | false => rfl
        | true =>
          have := prec_listed hcl _ _ o ho hed e
          rw [((hc b).1 hb).2] at this; cases this
      have hfit : ∀ b ∈ pre, Fit E (E.H s.f) all b i := fun b hb => hpw2.2.2 b hb i List.mem_cons_self
      have hcomm : ∀ b ∈ pre, commOk E.P (E.H s.f) all b i = true := by
        intro b hb
        have := hfit b hb
        unfold Fit pairOk at this
        rw [hnprec b (List.mem_append_left _ hb)] at this
        simp only [Bool.false_or, Bool.and_eq_true] at this
        exact this.1
      have hfr := front pre (fun b hb => ⟨hcomm b hb, hself b (List.mem_append_left _ hb), hnprec b (List.mem_append_left _ hb)⟩)
        (List.pairwise_append.2 ⟨hpw2.1, List.pairwise_singleton _ _, fun x hx y hy => by rw [List.mem_singleton.1 hy]; exact hfit x hx⟩)
        (fun k v hm' => by
          obtain ⟨o', h1, h2, h3⟩ := hheld k v hm'
          exact ⟨o', h1, h2, fun b hb => h3 b (by
            rcases List.mem_append.1 hb with hb | hb
            · exact List.mem_append_left _ hb
            · rw [List.mem_singleton.1 hb]; exact List.mem_append_right _ List.mem_cons_self)⟩) h
      obtain ⟨⟨s1, d1⟩, h1, h2⟩ := Option.bind_eq_some_iff.1 hfr
      unfold wpOp
      rw [ho]
      dsimp only
      have hni : i ∉ pre ++ post := by
        have := List.perm_middle.nodup_iff.1 hnd
        exact (List.nodup_cons.1 this).1
      have hnd' : (pre ++ post).Nodup := (List.nodup_cons.1 (List.perm_middle.nodup_iff.1 hnd)).2
      have hsub : List.Sublist (pre ++ post) (pre ++ i :: post) := List.Sublist.append (List.Sublist.refl _) (List.sublist_cons_self _ _)
      refine dstep_ok hS hO ho h1 hr hlow fun a1 w1 G1 r1 nx f1 => ?_
      refine ih (c := pre ++ post) (listed := listed.setIfInBounds i true) (s := s1) (done := d1) (by simp at hm ⊢; omega) h2 r1 (nx.low hlow) (by rw [nx.f]) (by simpa using hsz) (fun j => ?_) hnd' (fun j oj hj hoj e he => ?_) (fun j hj => hlin j (hsub.subset hj)) (hpw.sublist hsub) (fun j hj => hself j (hsub.subset hj)) ?_ fun a' w' G' r' nx' f' => hQ a' w' G' r' (nx.trans nx') (f1.trans (nx.lv ▸ f'))
      · rw [listed_set hil]
        have h3 := hc j
        constructor
        · intro hj
          obtain ⟨k1, k2⟩ := h3.1 (hsub.subset hj)
          have : j ≠ i := by rintro rfl; exact hni hj
          exact ⟨k1, by rw [k2]; simpa using this⟩
        · rintro ⟨k1, k2⟩
          simp only [Bool.or_eq_false_iff, beq_eq_false_iff_ne] at k2
          have hj := h3.2 ⟨k1, k2.1⟩
          rcases List.mem_append.1 hj with hj | hj
          · exact List.mem_append_left _ hj
          · rcases List.mem_cons.1 hj with hj | hj
            · exact absurd hj k2.2
            · exact List.mem_append_right _ hj
      · rw [listed_set hil] at hj ⊢
        rw [Bool.or_eq_true] at hj
        rcases hj with hj | hj
        · rw [hcl j oj hj hoj e he]; rfl
        · have hji : j = i := by simpa using hj
          subst hji
          rw [ho] at hoj
          obtain rfl := Option.some.inj hoj
          rw [hed e he]; rfl
      · refine Held.step (fun k v hm' => ?_) h1 fun x hx hl b hb ob hob => ?_
        · obtain ⟨o', h3, h4, h5⟩ := hheld k v hm'
          exact ⟨o', h3, h4, fun b hb => h5 b (hsub.subset hb)⟩
        · rw [ho] at hx
          obtain rfl := Option.some.inj hx
          rcases List.mem_append.1 hb with hb | hb
          · obtain ⟨x, y, q1, q2, _, q3, _⟩ := commOk_inv (hcomm b hb)
            rw [hob] at q1
            obtain rfl := Option.some.inj q1
            rw [ho] at q2
            obtain rfl := Option.some.inj q2
            refine List.all_eq_true.2 fun z hz => ?_
            have := List.all_eq_true.1 q3 z hz
            rw [memN_app] at this
            simp only [Bool.not_eq_true', Bool.or_eq_false_iff] at this ⊢
            exact this.1
          · exact ((List.pairwise_cons.1 hpw2.2.1).1 b hb).held ho hob hl

theorem linOk_spec : ∀ (c seen : List Nat), linOk all seen c = true → c.Nodup ∧ (∀ i ∈ c, i ∉ seen) ∧ ∀ pre i post, c = pre ++ i :: post → ∃ o, all[i]? = some o ∧ ∀ e ∈ edges o, e ∈ seen ∨ e ∈ pre := by
  intro c
  induction c with
  | nil => intro seen _; exact ⟨List.nodup_nil, fun i hi => (by cases hi), fun pre i post h => by cases pre <;> cases h⟩
  | cons i c ih =>
    intro seen h
    unfold linOk at h
    simp only [Bool.and_eq_true, Bool.not_eq_true'] at h
    obtain ⟨⟨h1, h2⟩, h3⟩ := h
    obtain ⟨k1, k2, k3⟩ := ih (i :: seen) h3
    have hi : i ∉ seen := fun hm => by rw [memN_iff.2 hm] at h2; cases h2
    refine ⟨List.nodup_cons.2 ⟨fun hm => k2 i hm List.mem_cons_self, k1⟩, fun j hj => ?_, fun pre j post e => ?_⟩
    · rcases List.mem_cons.1 hj with rfl | hj
      · exact hi
      · exact fun hm => k2 j hj (List.mem_cons_of_mem _ hm)
    · cases pre with
      | nil =>
        obtain ⟨rfl, rfl⟩ := List.cons.inj e
        split at h1
        · rename_i o ho
          exact ⟨o, ho, fun e he => .inl (memN_iff.1 (List.all_eq_true.1 h1 e he))⟩
        · cases h1
      | cons p pre =>
        obtain ⟨rfl, e'⟩ := List.cons.inj e
        obtain ⟨o, ho, he⟩ := k3 pre j post e'
        refine ⟨o, ho, fun e hm => ?_⟩
        rcases he e hm with h | h
        · rcases List.mem_cons.1 h with rfl | h
          · exact .inr List.mem_cons_self
          · exact .inl h
        · exact .inr (List.mem_cons_of_mem _ h)
theorem pairsOk_spec {H : Hint} : ∀ {c : List Nat}, pairsOk E.P H all c = true → c.Pairwise (Fit E H all) ∧ ∀ i ∈ c, selfOk H all i = true := by
  intro c
  induction c with
  | nil => intro _; exact ⟨List.Pairwise.nil, fun i hi => by cases hi⟩
  | cons a c ih =>
    intro h
    unfold pairsOk at h
    simp only [Bool.and_eq_true] at h
    obtain ⟨⟨h1, h2⟩, h3⟩ := h
    obtain ⟨k1, k2⟩ := ih h3
    refine ⟨List.pairwise_cons.2 ⟨fun i hi => List.all_eq_true.1 h2 i hi, k1⟩, fun i hi => ?_⟩
    rcases List.mem_cons.1 hi with rfl | hi
    · exact h1
    · exact k2 i hi
theorem Rel.drawn (h : Rel G s a w) : Rel G s a { w with drawn := w.drawn + 1 } := ⟨h.size, h.defers, h.slot, h.obj, h.dom, h.imm, h.lim⟩
theorem draw_all {n : Nat} (hS : SoundN E n) (hO : OrcOk E) {c : List Nat} {s' : St} {Q : Exit → Act → World → Prop} (hok : drawOk E.P (E.H s.f) all c = true) (h : drun E (evI E n) all c s [] = some s') (hr : Rel G s a w) (hlow : Low s)
    (hQ : ∀ a' w' G', Rel G' s' a' w' → Nx s s' → Fr s.lv G w G' w' → Q .normal a' w') : wpAny E.P .any all Q all.size (Array.replicate all.size false) a { w with drawn := w.drawn + 1 } := by
  unfold drawOk at hok
  simp only [Bool.and_eq_true, beq_iff_eq] at hok
  obtain ⟨⟨⟨h1, h2⟩, h3⟩, h4⟩ := hok
  obtain ⟨k1, _, k3⟩ := linOk_spec c [] h3
  obtain ⟨p1, p2⟩ := pairsOk_spec h4
  have hmem : ∀ i, i ∈ c ↔ i < all.size := by
    intro i
    constructor
    · intro hi
      obtain ⟨pre, post, e⟩ := List.append_of_mem hi
      obtain ⟨o, ho, _⟩ := k3 pre i post e
      exact (Array.getElem?_eq_some_iff.1 ho).1
    · intro hi
      exact memN_iff.1 (List.all_eq_true.1 h2 i (List.mem_range.2 hi))
  refine draw_wp hS hO (H := E.H s.f) (rank := fun i => c.idxOf i) all.size h1 h hr.drawn hlow rfl (by simp) (fun i => ?_) k1 (fun j o hj => ?_) (fun i hi o ho e he => ?_) p1 p2 (fun k v hm => by cases hm) fun a' w' G' r' nx f' => hQ a' w' G' r' nx ⟨f'.os, f'.tape, f'.output, f'.size, f'.keep, f'.imm, f'.outer⟩
  · rw [hmem]
    constructor
    · intro hi; exact ⟨hi, by simp [hi]⟩
    · exact fun hi => hi.1
  · by_cases hlt : j < all.size <;> simp [hlt] at hj
  · obtain ⟨pre, post, e'⟩ := List.append_of_mem hi
    obtain ⟨o', ho', hx⟩ := k3 pre i post e'
    rw [ho] at ho'
    obtain rfl := Option.some.inj ho'
    rcases hx e he with h | h
    · cases h
    · have hni : i ∉ pre := by
        rw [e'] at k1
        have := (List.nodup_append.1 k1).2.2
        exact fun hm => this i hm i List.mem_cons_self rfl
      refine ⟨(hmem e).1 (by rw [e']; exact List.mem_append_left _ h), ?_⟩
      show c.idxOf e < c.idxOf i
      rw [e', List.idxOf_append, List.idxOf_append, if_pos h, if_neg hni]
      have := List.idxOf_lt_length_of_mem h
      simp; omega
end Go.Ev
