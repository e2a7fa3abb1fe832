/- A region whose order is drawn. The whole. A run that comes to an end is a call that comes back. -/
import Derived.Test.YtcmnfoombinccaaEvM
set_option linter.unusedVariables false
set_option linter.unusedSimpArgs false
namespace Go.Ev
open Go
set_option linter.unusedVariables false
set_option linter.unusedSimpArgs false
variable {E : Env} {G : Gh} {s : St} {a : Act} {w : World} {all : Array Oper}

theorem op_extractR {P : Program} {d : Option Nat} {ty : TypeId} {pos : String} {af : Array Edge} {gd : Option (Nat × Bool)} {u i : Nat} {l : List V} {v : V} (h : Rel G s a w) (hu : s.t u = .tup l) (hv : l[i]? = some v) : OpOk P ⟨d, .extract (.tmp u) i, ty, pos, af, gd⟩ G s a w v.view s := by
  have h1 := h.slot u
  rw [hu] at h1
  obtain ⟨vs, hx, hl, hT⟩ := h1
  have hi : i < l.length := by
    rcases Nat.lt_or_ge i l.length with h' | h'
    · exact h'
    · rw [List.getElem?_eq_none h'] at hv; cases hv
  have hiv : i < vs.size := by omega
  have hvi : l.getD i .undef = v := by rw [List.getD_eq_getElem?_getD, hv]; rfl
  have h2 := hT i hi
  rw [hvi] at h2
  refine OpOk.tr h (x := vs.getD i Go.undef) ?_ (h2.view fun m e => by rw [e] at h2; exact h2.tup)
  simp only [execOp, Act.eval, hx]
  refine run_val ?_
  simp [Instr.extract, hiv, Array.getD]

theorem dstep_ok {n : Nat} (hS : SoundN E n) (hO : OrcOk E) {i : Nat} {done d1 : List (Nat × V)} {s1 : St} {o : Oper} (ho : all[i]? = some o) (h : dstep E (evI E n) all i s done = some (s1, d1)) (hr : Rel G s a w) (hlow : Low s) {K : Act → World → Prop} {Q : Exit → Act → World → Prop}
    (hK : ∀ a' w' G', Rel G' s1 a' w' → Nx s s1 → Fr s.lv G w G' w' → K a' w') : if Region.wanted o (yielded all a.tmps) then o.wp E.P a w K Q ∨ (o.asks E.P a w ∧ LetsOut Q) else K (a.put o.dst undef) w := by
  have viaG : stepG E n all o s = some s1 → if Region.wanted o (yielded all a.tmps) then o.wp E.P a w K Q ∨ (o.asks E.P a w ∧ LetsOut Q) else K (a.put o.dst undef) w := fun hg => stepG_ok hS hO hg hr hlow hK
  have skipG : guardS all o s = some false → s1 = s.putO o.dst (.tup []) → stepG E n all o s = some s1 := by
    rintro hg rfl
    unfold guardS at hg
    unfold stepG
    split at hg
    · cases hg
    · rename_i j want hgd
      split at hg
      · rename_i b hb
        have : ¬ b = want := by
          have := Option.some.inj hg
          simpa using this
        simp only [hgd, hb]
        rw [if_neg this]
      · rename_i hb
        simp only [hgd, hb]
      · cases hg
  have goG : guardS all o s = some true → stepO E n o s = some s1 → stepG E n all o s = some s1 := by
    intro hg hs
    unfold guardS at hg
    unfold stepG
    split at hg
    · rename_i hgd
      simp only [hgd]
      exact hs
    · rename_i j want hgd
      split at hg
      · rename_i b hb
        have : b = want := by
          have := Option.some.inj hg
          simpa using this
        simp only [hgd, hb]
        rw [if_pos this]
        exact hs
      · cases hg
      · cases hg
  have wantT : guardS all o s = some true → Region.wanted o (yielded all a.tmps) = true := by
    intro hg
    unfold guardS at hg
    split at hg
    · rename_i hgd
      unfold Region.wanted; rw [hgd]
    · rename_i j want hgd
      split at hg
      · rename_i b hb
        have := (wanted_of hr hgd hb).1 b rfl
        rw [this]
        exact Option.some.inj hg
      · cases hg
      · cases hg
  unfold dstep at h
  rw [ho] at h
  dsimp only at h
  cases hg : guardS all o s with
  | none => rw [hg] at h; cases h
  | some g =>
    rw [hg] at h
    cases g with
    | false =>
      dsimp only at h
      obtain ⟨h1, _⟩ := Prod.mk.inj (Option.some.inj h)
      exact viaG (skipG hg h1.symm)
    | true =>
      dsimp only at h
      by_cases hx : isX E.P (E.H s.f) o = true
      · rw [if_pos hx] at h
        by_cases hd : (dynX E.P o s && inDst s o) = true
        · rw [if_pos hd] at h
          simp only [Bool.and_eq_true] at hd
          obtain ⟨v, hv, he⟩ := Option.map_eq_some_iff.1 h
          obtain ⟨rfl, _⟩ := Prod.mk.inj he
          by_cases hex : ∃ u i, o.op = .extract u i
          · obtain ⟨u0, j, hop⟩ := hex
            obtain ⟨u, rfl⟩ : ∃ u, u0 = .tmp u := by
              cases u0 with
              | tmp u => exact ⟨u, rfl⟩
              | _ =>
                exfalso
                unfold xval at hv
                rw [hop] at hv
                dsimp only at hv
                unfold evV at hv
                cases hv
            rw [if_pos (wantT hg)]
            left
            obtain ⟨d, hdst⟩ := isX_dst hx
            unfold xval at hv
            rw [hop] at hv
            dsimp only at hv
            split at hv
            · rename_i l hu
              obtain ⟨v0, hv0, hve⟩ := Option.map_eq_some_iff.1 hv
              have hlt : d < s.n := by
                have := hd.2
                unfold inDst at this
                rw [hdst] at this
                simpa using this
              have hD : drops (E.H s.f) o = [] := by unfold drops; rw [hop]
              have hgd : o.dst.getD 0 = d := by rw [hdst]; rfl
              rw [hgd] at hve
              have hrun : ∀ {x w'}, (execOp a.eval ⟨o.dst, .extract (.tmp u) j, o.type, o.pos, o.after, o.guard⟩).run E.P w = .ok (.value x) w' → (execOp a.eval o).run E.P w = .ok (.value x) w' := fun h1 => by
                rw [← hop] at h1
                exact h1
              by_cases how : memN d (E.H s.f).own = true
              · have hvv : v = if memN d (E.H s.f).frz then v0.settle else v0 := by
                  rw [← hve]
                  unfold extV
                  rw [if_pos how]
                subst hvv
                clear hve
                have hop2 := op_extractC (P := E.P) (d := o.dst) (ty := o.type) (pos := o.pos) (af := o.after) (gd := o.guard) (i := j) hr hu hv0
                have hop3 : OpOk E.P ⟨o.dst, .extract (.tmp u) j, o.type, o.pos, o.after, o.guard⟩ G s a w (if memN d (E.H s.f).frz then v0.settle else v0) (s.put u (.tup (l.map V.view))) := by
                  split
                  · exact hop2.settle rfl
                  · exact hop2
                clear hop2
                generalize (if memN d (E.H s.f).frz then v0.settle else v0) = v1 at hop3 hK ⊢
                obtain ⟨x, w', G1, h1, h2, h3, h4⟩ := hop3
                obtain ⟨G2, p1, p2, _⟩ := h2.put h3 d hlt
                have hC : cuts (E.H s.f) o = [u] := by unfold cuts; rw [hop]; dsimp only; rw [hgd, if_pos how]
                have hset : s.setX (E.H s.f) o v1 = (s.put u (.tup (l.map V.view))).put d v1 := by
                  unfold St.setX
                  rw [hD, hC, hdst]
                  unfold St.put setT
                  congr 1
                  funext x
                  unfold upd
                  by_cases hx1 : x = d
                  · subst hx1; simp
                  · have : ¬ d = x := fun e => hx1 e.symm
                    simp only [Option.some.injEq, this, if_false, memN, hx1]
                    by_cases hx2 : x = u
                    · subst hx2; simp [hu, V.cut, memN]
                    · simp [hx2, memN]
                rw [hset] at hK
                unfold Oper.wp
                rw [hrun h1, Oper.upon_value]
                exact hK _ w' G2 (by rw [hdst]; exact p1) (Nx.trans (.put _ _ _) (.put _ _ _)) (h4.trans p2)
              · have hvv : v = v0.view := by
                  rw [← hve]
                  unfold extV
                  rw [if_neg how]
                subst hvv
                clear hve
                obtain ⟨x, w', G1, h1, h2, h3, h4⟩ := op_extractR (P := E.P) (d := o.dst) (ty := o.type) (pos := o.pos) (af := o.after) (gd := o.guard) (i := j) hr hu hv0
                obtain ⟨G2, p1, p2, _⟩ := h2.put h3 d hlt
                have hC : cuts (E.H s.f) o = [] := by unfold cuts; rw [hop]; dsimp only; rw [hgd, if_neg how]
                have hset : s.setX (E.H s.f) o v0.view = s.put d v0.view := by rw [setX_eq _ _ hC, hD, hdst]; rfl
                rw [hset] at hK
                unfold Oper.wp
                rw [hrun h1, Oper.upon_value]
                exact hK _ w' G2 (by rw [hdst]; exact p1) (.put _ _ _) (h4.trans p2)
            · cases hv
          · exact viaG (goG hg (xval_step hx hd.1 hd.2 hv fun u j e => hex ⟨u, j, e⟩))
        · rw [if_neg hd] at h; cases h
      · rw [if_neg hx] at h
        by_cases hl : isL (E.H s.f) o = true
        · rw [if_pos hl] at h
          by_cases hd : inDst s o = true
          · rw [if_pos hd] at h
            obtain ⟨v, hv, he⟩ := Option.map_eq_some_iff.1 h
            obtain ⟨rfl, _⟩ := Prod.mk.inj he
            exact viaG (goG hg (lval_step hl hd hv))
          · rw [if_neg hd] at h; cases h
        · rw [if_neg hl] at h
          split at h
          · rename_i s2 h1
            split at h
            · obtain ⟨rfl, _⟩ := Prod.mk.inj (Option.some.inj h)
              exact viaG (goG hg h1)
            · cases h
          · cases h

theorem listed_set {listed : Array Bool} {i j : Nat} (h : i < listed.size) : (listed.setIfInBounds i true).getD j false = (listed.getD j false || j == i) := by
  by_cases e : i = j
  · subst e; simp [h]
  · rw [getD_set_ne false e]
    have : (j == i) = false := by simp; exact fun h => e h.symm
    rw [this, Bool.or_false]
theorem draw_wp {n : Nat} (hS : SoundN E n) (hO : OrcOk E) {H : Hint} {rank : Nat → Nat} {Q : Exit → Act → World → Prop} : ∀ (m : Nat) {c : List Nat} {listed : Array Bool} {G : Gh} {s s' : St} {a : Act} {w : World} {done : List (Nat × V)}, c.length = m → drun E (evI E n) all c s done = some s' → Rel G s a w → Low s → E.H s.f = H →
    listed.size = all.size → (∀ i, i ∈ c ↔ (i < all.size ∧ listed.getD i false = false)) → c.Nodup → Closed all listed → (∀ i ∈ c, ∀ o, all[i]? = some o → ∀ e ∈ edges o, e < all.size ∧ rank e < rank i) → c.Pairwise (Fit E H all) → (∀ i ∈ c, selfOk H all i = true) → Held E H all done c →
    (∀ a' w' G', Rel G' s' a' w' → Nx s s' → Fr s.lv G w G' w' → Q .normal a' w') → wpAny E.P .any all Q m listed a w := by
  intro m
  induction m with
  | zero =>
    intro c listed G s s' a w done hm h hr hlow hH hsz hc hnd hcl hlin hpw hself hheld hQ
    obtain rfl : c = [] := List.eq_nil_of_length_eq_zero hm
    obtain rfl := Option.some.inj h
    refine ⟨?_, hQ a w G hr (.refl _) (Fr.refl _ _ _)⟩
    refine List.eq_nil_iff_forall_not_mem.2 fun i hi => ?_
    rw [mem_ready] at hi
    obtain ⟨h0, o, ho, _⟩ := hi
    have hlt := (Array.getElem?_eq_some_iff.1 ho).1
    have : i ∈ ([] : List Nat) := (hc i).2 ⟨hlt, by
      have e : i < listed.size := by omega
      simp [e] at h0 ⊢; exact h0⟩
    cases this
  | succ m ih =>
    intro c listed G s s' a w done hm h hr hlow hH hsz hc hnd hcl hlin hpw hself hheld hQ
    have hready : ∀ i, i ∈ Region.ready .any all listed → i ∈ c ∧ ∃ o, all[i]? = some o ∧ ∀ e ∈ edges o, listed.getD e false = true := by
      intro i hi
      rw [mem_ready] at hi
      obtain ⟨h0, o, ho, he⟩ := hi
      have hlt := (Array.getElem?_eq_some_iff.1 ho).1
      refine ⟨(hc i).2 ⟨hlt, by
        have e : i < listed.size := by omega
        simp [e] at h0 ⊢; exact h0⟩, o, ho, fun e hm' => ?_⟩
      obtain ⟨e', h1, h2, rfl⟩ := edges_inv hm'
      exact he e' h1 h2
    refine ⟨fun hnone => ?_, fun i hi => ?_⟩
    · -- one is always ready
      exfalso
      have none : ∀ r i, i ∈ c → rank i ≤ r → False := by
        intro r
        induction r with
        | zero =>
          intro i hi hrk
          have : i ∈ Region.ready .any all listed := by
            rw [mem_ready]
            obtain ⟨hlt, hlf⟩ := (hc i).1 hi
            refine ⟨?_, all[i], Array.getElem?_eq_getElem hlt, fun e he hb => ?_⟩
            · have e : i < listed.size := by omega
              simp [e] at hlf ⊢; exact hlf
            · have := (hlin i hi _ (Array.getElem?_eq_getElem hlt) _ (edges_mem he hb)).2
              omega
          rw [hnone] at this; cases this
        | succ r ihr =>
          intro i hi hrk
          obtain ⟨hlt, hlf⟩ := (hc i).1 hi
          by_cases hall : ∀ e ∈ edges all[i], listed.getD e false = true
          · have : i ∈ Region.ready .any all listed := by
              rw [mem_ready]
              refine ⟨?_, all[i], Array.getElem?_eq_getElem hlt, fun e he hb => hall _ (edges_mem he hb)⟩
              have e : i < listed.size := by omega
              simp [e] at hlf ⊢; exact hlf
            rw [hnone] at this; cases this
          · obtain ⟨e, he, hne⟩ : ∃ e, e ∈ edges all[i] ∧ ¬ listed.getD e false = true := Classical.byContradiction fun hx => hall fun e he => Classical.byContradiction fun hy => hx ⟨e, he, hy⟩
            obtain ⟨h1, h2⟩ := hlin i hi _ (Array.getElem?_eq_getElem hlt) e he
            exact ihr e ((hc e).2 ⟨h1, by simpa using hne⟩) (by omega)
      obtain ⟨i, hi⟩ : ∃ i, i ∈ c := by
        cases c with
        | nil => cases hm
        | cons i c => exact ⟨i, List.mem_cons_self⟩
      exact none _ i hi (Nat.le_refl _)
    · obtain ⟨hic, o, ho, hed⟩ := hready i hi
      have hlt := (Array.getElem?_eq_some_iff.1 ho).1
      have hil : i < listed.size := by omega
      obtain ⟨pre, post, rfl⟩ := List.append_of_mem hic
      subst hH
      have hpw2 := List.pairwise_append.1 hpw
      have hnprec : ∀ b, b ∈ pre ++ i :: post → prec all all.size b i = false := by
        intro b hb
        cases e : prec all all.size b i with
        | false => rfl
        | true =>
          have := prec_listed hcl _ _ o ho hed e
          rw [((hc b).1 hb).2] at this; cases this
      have hfit : ∀ b ∈ pre, Fit E (E.H s.f) all b i := fun b hb => hpw2.2.2 b hb i List.mem_cons_self
      have hcomm : ∀ b ∈ pre, (commOk E.P (E.H s.f) all b i || sibOk (E.H s.f) all b i) = true := by
        intro b hb
        have := hfit b hb
        unfold Fit pairOk at this
        rw [hnprec b (List.mem_append_left _ hb)] at this
        rw [Bool.false_or, Bool.and_eq_true] at this
        exact this.1
      have hfr := front pre (fun b hb => ⟨hcomm b hb, hself b (List.mem_append_left _ hb), hnprec b (List.mem_append_left _ hb)⟩)
        ((List.pairwise_append.2 ⟨hpw2.1, List.pairwise_singleton _ _, fun x hx y hy => by rw [List.mem_singleton.1 hy]; exact hfit x hx⟩ : (pre ++ [i]).Pairwise (Fit E (E.H s.f) all)).imp fun h => h.toH)
        (fun k v hm' => by
          obtain ⟨o', h1, h2, h3⟩ := hheld k v hm'
          exact ⟨o', h1, h2, fun b hb => h3 b (by
            rcases List.mem_append.1 hb with hb | hb
            · exact List.mem_append_left _ hb
            · rw [List.mem_singleton.1 hb]; exact List.mem_append_right _ List.mem_cons_self)⟩) h
      obtain ⟨⟨s1, d1⟩, h1, h2⟩ := Option.bind_eq_some_iff.1 hfr
      unfold wpOp
      rw [ho]
      dsimp only
      have hni : i ∉ pre ++ post := by
        have := List.perm_middle.nodup_iff.1 hnd
        exact (List.nodup_cons.1 this).1
      have hnd' : (pre ++ post).Nodup := (List.nodup_cons.1 (List.perm_middle.nodup_iff.1 hnd)).2
      have hsub : List.Sublist (pre ++ post) (pre ++ i :: post) := List.Sublist.append (List.Sublist.refl _) (List.sublist_cons_self _ _)
      refine dstep_ok hS hO ho h1 hr hlow fun a1 w1 G1 r1 nx f1 => ?_
      refine ih (c := pre ++ post) (listed := listed.setIfInBounds i true) (s := s1) (done := d1) (by simp at hm ⊢; omega) h2 r1 (nx.low hlow) (by rw [nx.f]) (by simpa using hsz) (fun j => ?_) hnd' (fun j oj hj hoj e he => ?_) (fun j hj => hlin j (hsub.subset hj)) (hpw.sublist hsub) (fun j hj => hself j (hsub.subset hj)) ?_ fun a' w' G' r' nx' f' => hQ a' w' G' r' (nx.trans nx') (f1.trans (nx.lv ▸ f'))
      · rw [listed_set hil]
        have h3 := hc j
        constructor
        · intro hj
          obtain ⟨k1, k2⟩ := h3.1 (hsub.subset hj)
          have : j ≠ i := by rintro rfl; exact hni hj
          exact ⟨k1, by rw [k2]; simpa using this⟩
        · rintro ⟨k1, k2⟩
          simp only [Bool.or_eq_false_iff, beq_eq_false_iff_ne] at k2
          have hj := h3.2 ⟨k1, k2.1⟩
          rcases List.mem_append.1 hj with hj | hj
          · exact List.mem_append_left _ hj
          · rcases List.mem_cons.1 hj with hj | hj
            · exact absurd hj k2.2
            · exact List.mem_append_right _ hj
      · rw [listed_set hil] at hj ⊢
        rw [Bool.or_eq_true] at hj
        rcases hj with hj | hj
        · rw [hcl j oj hj hoj e he]; rfl
        · have hji : j = i := by simpa using hj
          subst hji
          rw [ho] at hoj
          obtain rfl := Option.some.inj hoj
          rw [hed e he]; rfl
      · refine Held.step (fun k v hm' => ?_) h1 fun x hx hl b hb ob hob => ?_
        · obtain ⟨o', h3, h4, h5⟩ := hheld k v hm'
          exact ⟨o', h3, h4, fun b hb => h5 b (hsub.subset hb)⟩
        · rw [ho] at hx
          obtain rfl := Option.some.inj hx
          rcases List.mem_append.1 hb with hb | hb
          · have hcm := hcomm b hb
            rcases Bool.or_eq_true _ _ ▸ hcm with hcm | hcm
            rotate_left
            · rcases Bool.or_eq_true _ _ ▸ hcm with hcm | hcm
              · obtain ⟨_, _, _, _, _, _, _, _, _, _, _, _, hy, _⟩ := sib_inv hcm
                rw [ho] at hy
                obtain rfl := Option.some.inj hy
                simp [isL] at hl
              · obtain ⟨_, _, _, _, _, _, _, _, _, _, hy, _⟩ := sibM_inv hcm
                rw [ho] at hy
                obtain rfl := Option.some.inj hy
                simp [isL] at hl
            obtain ⟨x, y, q1, q2, _, q3, _⟩ := commOk_inv hcm
            rw [hob] at q1
            obtain rfl := Option.some.inj q1
            rw [ho] at q2
            obtain rfl := Option.some.inj q2
            refine List.all_eq_true.2 fun z hz => ?_
            have := List.all_eq_true.1 q3 z hz
            rw [memN_app] at this
            simp only [Bool.not_eq_true', Bool.or_eq_false_iff] at this ⊢
            exact this.1
          · exact ((List.pairwise_cons.1 hpw2.2.1).1 b hb).held ho hob hl

/-- what is kept of one of two orders: a before b is taken as it stands -/
structure Inv2 (E : Env) (ev : Run) (all : Array Oper) (H : Hint) (a b : Nat) (c : List Nat) (listed : Array Bool) (s s' : St) (done : List (Nat × V)) : Prop where
  run : drun E ev all c s done = some s'
  mem : ∀ i, i ∈ c ↔ (i < all.size ∧ listed.getD i false = false)
  nd : c.Nodup
  fit : c.Pairwise fun x y => Fit E H all x y ∨ (x = a ∧ y = b)
  self : ∀ i ∈ c, selfOk H all i = true
  held : Held E H all done c
theorem FitOr.toH {E : Env} {H : Hint} {a b x y : Nat} (hw : turns H all a = true) (h : Fit E H all x y ∨ (x = a ∧ y = b)) : FitH H all x y := by
  rcases h with h | ⟨rfl, rfl⟩
  · exact h.toH
  · intro o _ ho _ hl
    exfalso
    unfold turns at hw
    rw [ho] at hw
    dsimp only at hw
    rw [((isXL (H := H) (o := o) (P := E.P)).2 hl).1] at hw
    cases hw
/-- one that may come first is brought to the front of an order -/
theorem Inv2.step {ev : Run} {a b : Nat} {c : List Nat} {listed : Array Bool} {s s' : St} {done : List (Nat × V)} (hI : Inv2 E ev all (E.H s.f) a b c listed s s' done) (hw : turns (E.H s.f) all a = true) {i : Nat} {o : Oper} (hic : i ∈ c) (ho : all[i]? = some o) (hed : ∀ e ∈ edges o, listed.getD e false = true) (hcl : Closed all listed) (hsz : listed.size = all.size) (hib : i ≠ b) :
    ∃ s1 d1 c', dstep E ev all i s done = some (s1, d1) ∧ Inv2 E ev all (E.H s1.f) a b c' (listed.setIfInBounds i true) s1 s' d1 ∧ c'.length + 1 = c.length ∧ (∀ x ∈ c', x ∈ c ∧ x ≠ i) := by
  have hlt := (Array.getElem?_eq_some_iff.1 ho).1
  have hil : i < listed.size := by omega
  obtain ⟨h, hc, hnd, hpw, hself, hheld⟩ := hI
  obtain ⟨pre, post, rfl⟩ := List.append_of_mem hic
  have hpw2 := List.pairwise_append.1 hpw
  have hnprec : ∀ b', b' ∈ pre ++ i :: post → prec all all.size b' i = false := by
    intro b' hb
    cases e : prec all all.size b' i with
    | false => rfl
    | true =>
      have := prec_listed hcl _ _ o ho hed e
      rw [((hc b').1 hb).2] at this; cases this
  have hfit : ∀ x ∈ pre, Fit E (E.H s.f) all x i := fun x hx => by
    rcases hpw2.2.2 x hx i List.mem_cons_self with h | ⟨_, h⟩
    · exact h
    · exact absurd h hib
  have hcomm : ∀ b ∈ pre, (commOk E.P (E.H s.f) all b i || sibOk (E.H s.f) all b i) = true := by
    intro b hb
    have := hfit b hb
    unfold Fit pairOk at this
    rw [hnprec b (List.mem_append_left _ hb)] at this
    rw [Bool.false_or, Bool.and_eq_true] at this
    exact this.1
  have hfr := front pre (fun b hb => ⟨hcomm b hb, hself b (List.mem_append_left _ hb), hnprec b (List.mem_append_left _ hb)⟩)
    (List.pairwise_append.2 ⟨hpw2.1.imp fun h => FitOr.toH hw h, List.pairwise_singleton _ _, fun x hx y hy => by rw [List.mem_singleton.1 hy]; exact (hfit x hx).toH⟩)
    (fun k v hm' => by
      obtain ⟨o', h1, h2, h3⟩ := hheld k v hm'
      exact ⟨o', h1, h2, fun b hb => h3 b (by
        rcases List.mem_append.1 hb with hb | hb
        · exact List.mem_append_left _ hb
        · rw [List.mem_singleton.1 hb]; exact List.mem_append_right _ List.mem_cons_self)⟩) h
  obtain ⟨⟨s1, d1⟩, h1, h2⟩ := Option.bind_eq_some_iff.1 hfr
  have hni : i ∉ pre ++ post := by
    have := List.perm_middle.nodup_iff.1 hnd
    exact (List.nodup_cons.1 this).1
  have hnd' : (pre ++ post).Nodup := (List.nodup_cons.1 (List.perm_middle.nodup_iff.1 hnd)).2
  have hsub : List.Sublist (pre ++ post) (pre ++ i :: post) := List.Sublist.append (List.Sublist.refl _) (List.sublist_cons_self _ _)
  have hf := dstep_f h1
  refine ⟨s1, d1, pre ++ post, h1, ⟨h2, fun j => ?_, hnd', ?_, ?_, ?_⟩, by simp; omega, fun x hx => ⟨hsub.subset hx, fun e => hni (e ▸ hx)⟩⟩
  · rw [listed_set hil]
    have h3 := hc j
    constructor
    · intro hj
      obtain ⟨k1, k2⟩ := h3.1 (hsub.subset hj)
      have : j ≠ i := by rintro rfl; exact hni hj
      exact ⟨k1, by rw [k2]; simpa using this⟩
    · rintro ⟨k1, k2⟩
      simp only [Bool.or_eq_false_iff, beq_eq_false_iff_ne] at k2
      have hj := h3.2 ⟨k1, k2.1⟩
      rcases List.mem_append.1 hj with hj | hj
      · exact List.mem_append_left _ hj
      · rcases List.mem_cons.1 hj with hj | hj
        · exact absurd hj k2.2
        · exact List.mem_append_right _ hj
  · rw [hf]; exact hpw.sublist hsub
  · rw [hf]; exact fun j hj => hself j (hsub.subset hj)
  · rw [hf]
    refine Held.step (fun k v hm' => ?_) h1 fun x hx hl b' hb ob hob => ?_
    · obtain ⟨o', h3, h4, h5⟩ := hheld k v hm'
      exact ⟨o', h3, h4, fun b hb => h5 b (hsub.subset hb)⟩
    · rw [ho] at hx
      obtain rfl := Option.some.inj hx
      rcases List.mem_append.1 hb with hb | hb
      · have hcm := hcomm b' hb
        rcases Bool.or_eq_true _ _ ▸ hcm with hcm | hcm
        rotate_left
        · rcases Bool.or_eq_true _ _ ▸ hcm with hcm | hcm
          · obtain ⟨_, _, _, _, _, _, _, _, _, _, _, _, hy, _⟩ := sib_inv hcm
            rw [ho] at hy
            obtain rfl := Option.some.inj hy
            simp [isL] at hl
          · obtain ⟨_, _, _, _, _, _, _, _, _, _, hy, _⟩ := sibM_inv hcm
            rw [ho] at hy
            obtain rfl := Option.some.inj hy
            simp [isL] at hl
        obtain ⟨x, y, q1, q2, _, q3, _⟩ := commOk_inv hcm
        rw [hob] at q1
        obtain rfl := Option.some.inj q1
        rw [ho] at q2
        obtain rfl := Option.some.inj q2
        refine List.all_eq_true.2 fun z hz => ?_
        have := List.all_eq_true.1 q3 z hz
        rw [memN_app] at this
        simp only [Bool.not_eq_true', Bool.or_eq_false_iff] at this ⊢
        exact this.1
      · exact FitOr.toH hw ((List.pairwise_cons.1 hpw2.2.1).1 b' hb) o ob ho hob hl

theorem ready_some {c : List Nat} {listed : Array Bool} {rank : Nat → Nat} (hsz : listed.size = all.size) (hc : ∀ i, i ∈ c ↔ (i < all.size ∧ listed.getD i false = false)) (hlin : ∀ i ∈ c, ∀ o, all[i]? = some o → ∀ e ∈ edges o, e < all.size ∧ rank e < rank i) {i : Nat} (hi : i ∈ c) (hnone : Region.ready .any all listed = []) : False := by
  have none : ∀ r i, i ∈ c → rank i ≤ r → False := by
    intro r
    induction r with
    | zero =>
      intro i hi hrk
      have : i ∈ Region.ready .any all listed := by
        rw [mem_ready]
        obtain ⟨hlt, hlf⟩ := (hc i).1 hi
        refine ⟨?_, all[i], Array.getElem?_eq_getElem hlt, fun e he hb => ?_⟩
        · have e : i < listed.size := by omega
          simp [e] at hlf ⊢; exact hlf
        · have := (hlin i hi _ (Array.getElem?_eq_getElem hlt) _ (edges_mem he hb)).2
          omega
      rw [hnone] at this; cases this
    | succ r ihr =>
      intro i hi hrk
      obtain ⟨hlt, hlf⟩ := (hc i).1 hi
      by_cases hall : ∀ e ∈ edges all[i], listed.getD e false = true
      · have : i ∈ Region.ready .any all listed := by
          rw [mem_ready]
          refine ⟨?_, all[i], Array.getElem?_eq_getElem hlt, fun e he hb => hall _ (edges_mem he hb)⟩
          have e : i < listed.size := by omega
          simp [e] at hlf ⊢; exact hlf
        rw [hnone] at this; cases this
      · obtain ⟨e, he, hne⟩ : ∃ e, e ∈ edges all[i] ∧ ¬ listed.getD e false = true := Classical.byContradiction fun hx => hall fun e he => Classical.byContradiction fun hy => hx ⟨e, he, hy⟩
        obtain ⟨h1, h2⟩ := hlin i hi _ (Array.getElem?_eq_getElem hlt) e he
        exact ihr e ((hc e).2 ⟨h1, by simpa using hne⟩) (by omega)
  exact none _ i hi (Nat.le_refl _)
/-- two orders, until one of the two is done -/
theorem draw_wp2 {n : Nat} (hS : SoundN E n) (hO : OrcOk E) {H : Hint} {rank : Nat → Nat} {Q : Exit → Act → World → Prop} {p q : Nat} (hpq : p ≠ q) (hp : turns H all p = true) (hq : turns H all q = true) : ∀ (m : Nat) {c c2 : List Nat} {listed : Array Bool} {G : Gh} {s s' : St} {a : Act} {w : World} {done : List (Nat × V)}, c.length = m → c2.length = m →
    Inv2 E (evI E n) all H p q c listed s s' done → Inv2 E (evI E n) all H q p c2 listed s s' done → p ∈ c → q ∈ c → Rel G s a w → Low s → E.H s.f = H →
    listed.size = all.size → Closed all listed → (∀ i ∈ c, ∀ o, all[i]? = some o → ∀ e ∈ edges o, e < all.size ∧ rank e < rank i) →
    (∀ a' w' G', Rel G' s' a' w' → Nx s s' → Fr s.lv G w G' w' → Q .normal a' w') → wpAny E.P .any all Q m listed a w := by
  intro m
  induction m with
  | zero =>
    intro c c2 listed G s s' a w done hm _ _ _ hpc
    obtain rfl : c = [] := List.eq_nil_of_length_eq_zero hm
    cases hpc
  | succ m ih =>
    intro c c2 listed G s s' a w done hm hm2 h1 h2 hpc hqc hr hlow hH hsz hcl hlin hQ
    have hready : ∀ i, i ∈ Region.ready .any all listed → i ∈ c ∧ ∃ o, all[i]? = some o ∧ ∀ e ∈ edges o, listed.getD e false = true := by
      intro i hi
      rw [mem_ready] at hi
      obtain ⟨h0, o, ho, he⟩ := hi
      have hlt := (Array.getElem?_eq_some_iff.1 ho).1
      refine ⟨(h1.mem i).2 ⟨hlt, by
        have e : i < listed.size := by omega
        simp [e] at h0 ⊢; exact h0⟩, o, ho, fun e hm' => ?_⟩
      obtain ⟨e', h1, h2, rfl⟩ := edges_inv hm'
      exact he e' h1 h2
    refine ⟨fun hnone => (ready_some hsz h1.mem hlin hpc hnone).elim, fun i hi => ?_⟩
    obtain ⟨hic, o, ho, hed⟩ := hready i hi
    have hlt := (Array.getElem?_eq_some_iff.1 ho).1
    have hil : i < listed.size := by omega
    have hic2 : i ∈ c2 := (h2.mem i).2 ((h1.mem i).1 hic)
    subst hH
    unfold wpOp
    rw [ho]
    dsimp only
    have hcl2 : Closed all (listed.setIfInBounds i true) := by
      intro j oj hj hoj e he
      rw [listed_set hil] at hj ⊢
      rw [Bool.or_eq_true] at hj
      rcases hj with hj | hj
      · rw [hcl j oj hj hoj e he]; rfl
      · have hji : j = i := by simpa using hj
        subst hji
        rw [ho] at hoj
        obtain rfl := Option.some.inj hoj
        rw [hed e he]; rfl
    -- one order alone goes on
    have one : ∀ {p q : Nat} {c : List Nat} (hI : Inv2 E (evI E n) all (E.H s.f) p q c listed s s' done), c.length = m + 1 → i ∈ c → turns (E.H s.f) all p = true → i = p → i ≠ q → (∀ i ∈ c, ∀ o, all[i]? = some o → ∀ e ∈ edges o, e < all.size ∧ rank e < rank i) → if Region.wanted o (yielded all a.tmps) then o.wp E.P a w (fun a' w' => wpAny E.P .any all Q m (listed.setIfInBounds i true) a' w') Q ∨ (o.asks E.P a w ∧ LetsOut Q) else wpAny E.P .any all Q m (listed.setIfInBounds i true) (a.put o.dst undef) w := by
      intro p q c hI hlen hic hw hip hiq hlin
      obtain ⟨s1, d1, c', k1, k2, k3, k4⟩ := hI.step hw hic ho hed hcl hsz hiq
      refine dstep_ok hS hO ho k1 hr hlow fun a1 w1 G1 r1 nx f1 => ?_
      refine draw_wp hS hO (H := E.H s1.f) (rank := rank) m (by omega) k2.run r1 (nx.low hlow) rfl (by simpa using hsz) k2.mem k2.nd hcl2 (fun j hj => hlin j (k4 j hj).1) ?_ k2.self k2.held fun a' w' G' r' nx' f' => hQ a' w' G' r' (nx.trans nx') (f1.trans (nx.lv ▸ f'))
      refine k2.fit.imp_of_mem fun {x y} hx hy h => ?_
      rcases h with h | ⟨rfl, _⟩
      · exact h
      · exact absurd hip.symm (k4 _ hx).2
    by_cases hip : i = p
    · exact one h1 hm hic hp hip (by rw [hip]; exact hpq) hlin
    by_cases hiq : i = q
    · exact one h2 hm2 hic2 hq hiq hip fun j hj => hlin j ((h1.mem j).2 ((h2.mem j).1 hj))
    obtain ⟨s1, d1, c', k1, k2, k3, k4⟩ := h1.step hp hic ho hed hcl hsz hiq
    obtain ⟨s2, d2, c2', l1, l2, l3, l4⟩ := h2.step hq hic2 ho hed hcl hsz hip
    rw [k1] at l1
    obtain ⟨rfl, rfl⟩ := Prod.mk.inj (Option.some.inj l1)
    have hf := dstep_f k1
    refine dstep_ok hS hO ho k1 hr hlow fun a1 w1 G1 r1 nx f1 => ?_
    refine ih (c := c') (c2 := c2') (s := s1) (done := d1) (by omega) (by omega) (by rw [← hf]; exact k2) (by rw [← hf]; exact l2) ?_ ?_ r1 (nx.low hlow) (by rw [hf]) (by simpa using hsz) hcl2 (fun j hj => hlin j (k4 j hj).1) fun a' w' G' r' nx' f' => hQ a' w' G' r' (nx.trans nx') (f1.trans (nx.lv ▸ f'))
    · rw [k2.mem, listed_set hil]
      have := (h1.mem p).1 hpc
      exact ⟨this.1, by rw [this.2]; simpa using fun h => hip h.symm⟩
    · rw [k2.mem, listed_set hil]
      have := (h1.mem q).1 hqc
      exact ⟨this.1, by rw [this.2]; simpa using fun h => hiq h.symm⟩

theorem linOk_spec : ∀ (c seen : List Nat), linOk all seen c = true → c.Nodup ∧ (∀ i ∈ c, i ∉ seen) ∧ ∀ pre i post, c = pre ++ i :: post → ∃ o, all[i]? = some o ∧ ∀ e ∈ edges o, e ∈ seen ∨ e ∈ pre := by
  intro c
  induction c with
  | nil => intro seen _; exact ⟨List.nodup_nil, fun i hi => (by cases hi), fun pre i post h => by cases pre <;> cases h⟩
  | cons i c ih =>
    intro seen h
    unfold linOk at h
    simp only [Bool.and_eq_true, Bool.not_eq_true'] at h
    obtain ⟨⟨h1, h2⟩, h3⟩ := h
    obtain ⟨k1, k2, k3⟩ := ih (i :: seen) h3
    have hi : i ∉ seen := fun hm => by rw [memN_iff.2 hm] at h2; cases h2
    refine ⟨List.nodup_cons.2 ⟨fun hm => k2 i hm List.mem_cons_self, k1⟩, fun j hj => ?_, fun pre j post e => ?_⟩
    · rcases List.mem_cons.1 hj with rfl | hj
      · exact hi
      · exact fun hm => k2 j hj (List.mem_cons_of_mem _ hm)
    · cases pre with
      | nil =>
        obtain ⟨rfl, rfl⟩ := List.cons.inj e
        split at h1
        · rename_i o ho
          exact ⟨o, ho, fun e he => .inl (memN_iff.1 (List.all_eq_true.1 h1 e he))⟩
        · cases h1
      | cons p pre =>
        obtain ⟨rfl, e'⟩ := List.cons.inj e
        obtain ⟨o, ho, he⟩ := k3 pre j post e'
        refine ⟨o, ho, fun e hm => ?_⟩
        rcases he e hm with h | h
        · rcases List.mem_cons.1 h with rfl | h
          · exact .inr List.mem_cons_self
          · exact .inl h
        · exact .inr (List.mem_cons_of_mem _ h)
theorem pairsOk_spec {H : Hint} : ∀ {c : List Nat}, pairsOk E.P H all c = true → c.Pairwise (Fit E H all) ∧ ∀ i ∈ c, selfOk H all i = true := by
  intro c
  induction c with
  | nil => intro _; exact ⟨List.Pairwise.nil, fun i hi => by cases hi⟩
  | cons a c ih =>
    intro h
    unfold pairsOk at h
    simp only [Bool.and_eq_true] at h
    obtain ⟨⟨h1, h2⟩, h3⟩ := h
    obtain ⟨k1, k2⟩ := ih h3
    refine ⟨List.pairwise_cons.2 ⟨fun i hi => List.all_eq_true.1 h2 i hi, k1⟩, fun i hi => ?_⟩
    rcases List.mem_cons.1 hi with rfl | hi
    · exact h1
    · exact k2 i hi
theorem Rel.drawn (h : Rel G s a w) : Rel G s a { w with drawn := w.drawn + 1 } := ⟨h.size, h.defers, fun t => (h.slot t).mono (Le.refl _) (fun _ _ _ e => ⟨rfl, fun _ => rfl, e⟩), fun lv t ob ho => by
  obtain ⟨g, a1, a2, a3⟩ := h.obj lv t ob ho
  exact ⟨g, a1, a2, a3.mono (Le.refl _) ⟨rfl, fun _ => rfl⟩ fun j k hk => ⟨rfl, fun _ => rfl, hk⟩⟩, h.dom, h.imm, h.lim⟩
theorem draw_all {n : Nat} (hS : SoundN E n) (hO : OrcOk E) {c : List Nat} {s' : St} {Q : Exit → Act → World → Prop} (hok : drawOk E.P (E.H s.f) all c = true) (h : drun E (evI E n) all c s [] = some s') (hr : Rel G s a w) (hlow : Low s)
    (hQ : ∀ a' w' G', Rel G' s' a' w' → Nx s s' → Fr s.lv G w G' w' → Q .normal a' w') : wpAny E.P .any all Q all.size (Array.replicate all.size false) a { w with drawn := w.drawn + 1 } := by
  unfold drawOk at hok
  simp only [Bool.and_eq_true, beq_iff_eq] at hok
  obtain ⟨⟨⟨h1, h2⟩, h3⟩, h4⟩ := hok
  obtain ⟨k1, _, k3⟩ := linOk_spec c [] h3
  obtain ⟨p1, p2⟩ := pairsOk_spec h4
  have hmem : ∀ i, i ∈ c ↔ i < all.size := by
    intro i
    constructor
    · intro hi
      obtain ⟨pre, post, e⟩ := List.append_of_mem hi
      obtain ⟨o, ho, _⟩ := k3 pre i post e
      exact (Array.getElem?_eq_some_iff.1 ho).1
    · intro hi
      exact memN_iff.1 (List.all_eq_true.1 h2 i (List.mem_range.2 hi))
  refine draw_wp hS hO (H := E.H s.f) (rank := fun i => c.idxOf i) all.size h1 h hr.drawn hlow rfl (by simp) (fun i => ?_) k1 (fun j o hj => ?_) (fun i hi o ho e he => ?_) p1 p2 (fun k v hm => by cases hm) fun a' w' G' r' nx f' => hQ a' w' G' r' nx ⟨f'.os, f'.tape, f'.output, f'.size, f'.keep, f'.imm, f'.outer⟩
  · rw [hmem]
    constructor
    · intro hi; exact ⟨hi, by simp [hi]⟩
    · exact fun hi => hi.1
  · by_cases hlt : j < all.size <;> simp [hlt] at hj
  · obtain ⟨pre, post, e'⟩ := List.append_of_mem hi
    obtain ⟨o', ho', hx⟩ := k3 pre i post e'
    rw [ho] at ho'
    obtain rfl := Option.some.inj ho'
    rcases hx e he with h | h
    · cases h
    · have hni : i ∉ pre := by
        rw [e'] at k1
        have := (List.nodup_append.1 k1).2.2
        exact fun hm => this i hm i List.mem_cons_self rfl
      refine ⟨(hmem e).1 (by rw [e']; exact List.mem_append_left _ h), ?_⟩
      show c.idxOf e < c.idxOf i
      rw [e', List.idxOf_append, List.idxOf_append, if_pos h, if_neg hni]
      have := List.idxOf_lt_length_of_mem h
      simp; omega
theorem pairsV_spec {H : Hint} {p q : Nat} : ∀ {c : List Nat}, pairsV E.P H all p q c = true → (c.Pairwise fun x y => Fit E H all x y ∨ (x = p ∧ y = q)) ∧ ∀ i ∈ c, selfOk H all i = true := by
  intro c
  induction c with
  | nil => intro _; exact ⟨List.Pairwise.nil, fun i hi => by cases hi⟩
  | cons a c ih =>
    intro h
    unfold pairsV at h
    simp only [Bool.and_eq_true] at h
    obtain ⟨⟨h1, h2⟩, h3⟩ := h
    obtain ⟨k1, k2⟩ := ih h3
    refine ⟨List.pairwise_cons.2 ⟨fun i hi => ?_, k1⟩, fun i hi => ?_⟩
    · have := List.all_eq_true.1 h2 i hi
      simp only [Bool.or_eq_true, Bool.and_eq_true, beq_iff_eq] at this
      exact this
    · rcases List.mem_cons.1 hi with rfl | hi
      · exact h1
      · exact k2 i hi
theorem drawV_inv {ev : Run} {p q : Nat} {c : List Nat} {s' : St} (hok : drawV E.P (E.H s.f) all p q c = true) (h : drun E ev all c s [] = some s') : c.length = all.size ∧ Inv2 E ev all (E.H s.f) p q c (Array.replicate all.size false) s s' [] ∧ ∀ i ∈ c, ∀ o, all[i]? = some o → ∀ e ∈ edges o, e < all.size ∧ c.idxOf e < c.idxOf i := by
  unfold drawV at hok
  simp only [Bool.and_eq_true, beq_iff_eq] at hok
  obtain ⟨⟨⟨h1, h2⟩, h3⟩, h4⟩ := hok
  obtain ⟨k1, _, k3⟩ := linOk_spec c [] h3
  obtain ⟨p1, p2⟩ := pairsV_spec h4
  have hmem : ∀ i, i ∈ c ↔ i < all.size := by
    intro i
    constructor
    · intro hi
      obtain ⟨pre, post, e⟩ := List.append_of_mem hi
      obtain ⟨o, ho, _⟩ := k3 pre i post e
      exact (Array.getElem?_eq_some_iff.1 ho).1
    · intro hi
      exact memN_iff.1 (List.all_eq_true.1 h2 i (List.mem_range.2 hi))
  refine ⟨h1, ⟨h, fun i => ?_, k1, p1, p2, fun k v hm => by cases hm⟩, fun i hi o ho e he => ?_⟩
  · rw [hmem]
    constructor
    · intro hi; exact ⟨hi, by simp [hi]⟩
    · exact fun hi => hi.1
  · obtain ⟨pre, post, e'⟩ := List.append_of_mem hi
    obtain ⟨o', ho', hx⟩ := k3 pre i post e'
    rw [ho] at ho'
    obtain rfl := Option.some.inj ho'
    rcases hx e he with h | h
    · cases h
    · have hni : i ∉ pre := by
        rw [e'] at k1
        have := (List.nodup_append.1 k1).2.2
        exact fun hm => this i hm i List.mem_cons_self rfl
      refine ⟨(hmem e).1 (by rw [e']; exact List.mem_append_left _ h), ?_⟩
      rw [e', List.idxOf_append, List.idxOf_append, if_pos h, if_neg hni]
      have := List.idxOf_lt_length_of_mem h
      simp; omega
theorem draw_all2 {n : Nat} (hS : SoundN E n) (hO : OrcOk E) {c : List Nat} {alt : Option (Nat × Nat × List Nat)} {s' : St} {Q : Exit → Act → World → Prop} (hok : drawOk2 E.P (E.H s.f) all c alt = true) (h : dall E (evI E n) all c alt s = some s') (hr : Rel G s a w) (hlow : Low s)
    (hQ : ∀ a' w' G', Rel G' s' a' w' → Nx s s' → Fr s.lv G w G' w' → Q .normal a' w') : wpAny E.P .any all Q all.size (Array.replicate all.size false) a { w with drawn := w.drawn + 1 } := by
  cases alt with
  | none => exact draw_all hS hO hok h hr hlow hQ
  | some x =>
    obtain ⟨p, q, c2⟩ := x
    unfold drawOk2 at hok
    simp only [Bool.and_eq_true, bne_iff_ne, ne_eq] at hok
    obtain ⟨⟨⟨⟨hp, hq⟩, hpq⟩, h1⟩, h2⟩ := hok
    obtain ⟨s1, e1, h⟩ := Option.bind_eq_some_iff.1 h
    obtain ⟨s2, e2, h⟩ := Option.bind_eq_some_iff.1 h
    unfold sameS at h
    split at h
    · rename_i hs
      subst hs
      obtain rfl := Option.some.inj h
      obtain ⟨l1, i1, r1⟩ := drawV_inv h1 e1
      obtain ⟨l2, i2, _⟩ := drawV_inv h2 e2
      have inc : ∀ {x}, turns (E.H s.f) all x = true → x ∈ c := by
        intro x hx
        unfold turns at hx
        split at hx
        · rename_i o ho
          have hlt := (Array.getElem?_eq_some_iff.1 ho).1
          exact (i1.mem x).2 ⟨hlt, by simp [hlt]⟩
        · cases hx
      exact draw_wp2 hS hO (H := E.H s.f) (rank := fun i => c.idxOf i) hpq hp hq all.size l1 l2 i1 i2 (inc hp) (inc hq) hr.drawn hlow rfl (by simp) (fun j o hj => by by_cases hlt : j < all.size <;> simp [hlt] at hj) r1 fun a' w' G' r' nx f' => hQ a' w' G' r' nx ⟨f'.os, f'.tape, f'.output, f'.size, f'.keep, f'.imm, f'.outer⟩
    · cases h
end Go.Ev
namespace Go.Ev
open Go
set_option linter.unusedVariables false
set_option linter.unusedSimpArgs false
variable {E : Env} {G : Gh} {s : St} {a : Act} {w : World}

theorem soundN (hM : E.P.follows .mixedOrders = true) (hO : OrcOk E) : ∀ n, SoundN E n := by
  intro n
  induction n with
  | zero => intro its s r h; simp [evI] at h
  | succ n ih =>
    intro its s r h hlow fn hf hres G a w hr k hk b cs hb hkind
    -- a step of the machine to the same place
    have next : ∀ {its' : List It} {s' : St} {G' : Gh} {a' : Act} {w' : World} {k' : List Item}, evI E n its' s' = some r → Rel G' s' a' w' → Nx s s' → Fr s.lv G w G' w' → Its its' k' → Steps E.P (lone (b.at a k) cs w) (lone (b.at a' k') cs w') →
        ∃ x w'' fr G'', Steps E.P (lone (b.at a k) cs w) (lone fr cs w'') ∧ fr.fn = s.f ∧ fr.leaving E.P w'' (.returned x) ∧ Done s.lv G w r.2 r.1 x w'' G'' ∧ LowL r.2 := by
      intro its' s' G' a' w' k' hev r' nx f' hk' hst
      obtain ⟨x, w'', fr, G'', h1, h2, h3, h4, h5⟩ := ih its' s' r hev (nx.low hlow) fn (by rw [nx.f]; exact hf) (by rw [nx.r]; exact hres) G' a' w' r' k' hk' b cs (by rw [nx.f]; exact hb) hkind
      exact ⟨x, w'', fr, G'', hst.trans h1, h2.trans nx.f, h3, (nx.lv ▸ h4).pre f', h5⟩
    rw [evI] at h
    cases its with
    | nil =>
      cases hk
      unfold stepI at h
      dsimp only at h
      split at h
      · rename_i e
        split at e <;> cases e
      · rename_i v o e
        split at e
        · rename_i v' s1 hv
          obtain ⟨rfl, rfl⟩ := Out.done.inj e
          obtain rfl := Option.some.inj h
          obtain ⟨x, G', h1, h2⟩ := leaves (b := b) (G' := G) hr hf hres hv hb hkind
          exact ⟨x, w, _, G', .one step_end, hb, h1 [], h2, endV_low hv hlow⟩
        · cases e
      · cases h
      · rename_i e
        split at e <;> cases e
      · rename_i e
        split at e <;> cases e
    | cons i its =>
      cases hk with
      | blk id hk => exact next (by simpa [stepI] using h) hr (.refl _) (Fr.refl _ _ _) hk (.one step_inBlock)
      | lp c hk =>
        unfold stepI at h
        dsimp only at h
        split at h
        · rename_i k2 s2 e
          split at e
          · rename_i s' hc
            obtain ⟨rfl, rfl⟩ := Out.go.inj e
            obtain ⟨G', h1, h2, h3⟩ := canon_ok hr hlow hc
            exact next h h1 h3 h2 (.code c (.lp c hk)) (.one step_inLoop)
          · cases e
        · rename_i e; split at e <;> cases e
        · cases h
        · rename_i e; split at e <;> cases e
        · rename_i e; split at e <;> cases e
      | code c hk =>
        rename_i k
        cases c with
        | skip => exact next (by simpa [stepI] using h) hr (.refl _) (Fr.refl _ _ _) hk (.one step_skip)
        | seq x y => exact next (its' := .code x :: .code y :: its) (by simpa [stepI] using h) hr (.refl _) (Fr.refl _ _ _) (.code x (.code y hk)) (.one step_seq)
        | block id c => exact next (its' := .code c :: .blk id :: its) (by simpa [stepI] using h) hr (.refl _) (Fr.refl _ _ _) (.code c (.blk id hk)) (.one step_block)
        | region id ops dr =>
          cases dr with
          | true =>
            have hds : stepI E (.code (.region id ops true) :: its) s = if drawOk2 E.P (E.H s.f) ops (orderOf (E.H s.f) id ops.size) (altOf (E.H s.f) id) then .draw ops (orderOf (E.H s.f) id ops.size) (altOf (E.H s.f) id) its s else .fail := by simp [stepI]
            rw [hds] at h
            by_cases hok : drawOk2 E.P (E.H s.f) ops (orderOf (E.H s.f) id ops.size) (altOf (E.H s.f) id) = true
            · rw [if_pos hok] at h
              dsimp only at h
              split at h
              · rename_i s' h1
                have hwp := draw_all2 (Q := fun e a' w' => e = .normal ∧ ∃ G', Rel G' s' a' w' ∧ Nx s s' ∧ Fr s.lv G w G' w') ih hO hok h1 hr hlow fun a' w' G' r' nx f' => ⟨rfl, G', r', nx, f'⟩
                obtain ⟨e, a', w', ⟨rfl, G', r', nx, f'⟩, harr⟩ := wp_region_any (id := id) hM hwp b k cs
                exact next h r' nx f' hk harr
              · cases h
            · rw [if_neg hok] at h; cases h
          | false =>
            have h' : evI E n (.ops ops.toList ops :: its) s = some r := by simpa [stepI] using h
            cases n with
            | zero => simp [evI] at h'
            | succ n =>
              obtain ⟨s', h1, h2⟩ := evI_ops h'
              have h1' := stepsO_mono (Nat.le_succ n) h1
              have hwp : wpOps E.P ops (fun e a' w' => e = .normal ∧ ∃ G', Rel G' s' a' w' ∧ Nx s s' ∧ Fr s.lv G w G' w') (List.range' 0 ops.size) a w :=
                region_ok ih hO ops.size 0 (by omega) (by simpa using h1') hr hlow fun a' w' G' r' nx f' => ⟨rfl, G', r', nx, f'⟩
              rw [← List.range_eq_range'] at hwp
              obtain ⟨e, a', w', ⟨rfl, G', r', nx, f'⟩, harr⟩ := wp_ops (P := E.P) _ a w hwp b k cs
              exact next (evI_le E (Nat.le_succ n) h2) r' nx f' hk (.head step_region harr)
        | cond x c1 c2 =>
          unfold stepI at h
          dsimp only at h
          have hx := hr.see E.P 0 x
          generalize s.see E.P 0 x = u at h hx
          cases u with
          | bool t =>
            have hv := hx.bool_inv
            dsimp only at h
            cases t with
            | true => exact next (its' := .code c1 :: its) (by simpa using h) hr (.refl _) (Fr.refl _ _ _) (.code c1 hk) (.one (step_cond hv))
            | false => exact next (its' := .code c2 :: its) (by simpa using h) hr (.refl _) (Fr.refl _ _ _) (.code c2 hk) (.one (step_cond hv))
          | _ => cases h
        | loop c =>
          have h' : evI E n (.lp c :: its) s = some r := by simpa [stepI] using h
          cases n with
          | zero => simp [evI] at h'
          | succ n =>
            rw [evI] at h'
            unfold stepI at h'
            dsimp only at h'
            split at h'
            · rename_i k2 s2 e
              split at e
              · rename_i s' hc
                obtain ⟨rfl, rfl⟩ := Out.go.inj e
                obtain ⟨G', h1, h2, h3⟩ := canon_ok hr hlow hc
                exact next (evI_le E (Nat.le_succ n) h') h1 h3 h2 (.code c (.lp c hk)) (.one step_loop)
              · cases e
            · rename_i e; split at e <;> cases e
            · cases h'
            · rename_i e; split at e <;> cases e
            · rename_i e; split at e <;> cases e
        | exit id =>
          unfold stepI at h
          dsimp only at h
          cases hx : outOf id its with
          | none => rw [hx] at h; cases h
          | some its' =>
            rw [hx] at h
            obtain ⟨k', h1, h2⟩ := hk.exit hx
            exact next h hr (.refl _) (Fr.refl _ _ _) h2 (.one (step_exit h1))
        | ret =>
          have h' : evI E n [] s = some r := by simpa [stepI] using h
          cases n with
          | zero => simp [evI] at h'
          | succ n =>
            rw [evI] at h'
            unfold stepI at h'
            dsimp only at h'
            split at h'
            · rename_i e
              split at e <;> cases e
            · rename_i v o e
              split at e
              · rename_i v' s1 hv
                obtain ⟨rfl, rfl⟩ := Out.done.inj e
                obtain rfl := Option.some.inj h'
                obtain ⟨x, G', h1, h2⟩ := leaves (b := b) (G' := G) hr hf hres hv hb hkind
                exact ⟨x, w, _, G', .one step_ret, hb, h1 _, h2, endV_low hv hlow⟩
              · cases e
            · cases h'
            · rename_i e
              split at e <;> cases e
            · rename_i e
              split at e <;> cases e
        | _ => simp [stepI] at h
end Go.Ev
namespace Go.Ev
open Go Go.RowKit
set_option linter.unusedVariables false
variable {E : Env}

theorem done_below {G G' : Gh} {w w' : World} {o : List (Nat → Option Ob)} {v : V} {x : Value} (h : Done 0 { S := G.S, β := fun _ _ => none, ω := fun _ => none } w o v x w' G') : Below w.heap.size w w' :=
  ⟨h.fr.os, h.fr.tape, h.fr.output, h.fr.size, fun k hk => (h.fr.keep k hk (fun p hp => by cases hp)).1⟩
theorem run_calls (hM : E.P.follows .mixedOrders = true) (hO : OrcOk E) {f : Nat} {args : List V} {cargs : Array Value} {w : World} {v : V} {o : List (Nat → Option Ob)} (hrun : run E f args [] = some (v, o)) {S : Nat → Nat → Option Value} (hS : ∀ g j c, S g j = some c → w.cell? ⟨g, j, none⟩ = some c) (hl : args.length = cargs.size)
    (hT : ∀ i, i < args.length → Tr S (fun _ _ => none) (args.getD i .undef) (cargs.getD i Go.undef)) :
    Calls E.P f cargs w fun e w' => ∃ x G', e = .returned x ∧ Done 0 { S := S, β := fun _ _ => none, ω := fun _ => none } w o v x w' G' := by
  unfold run at hrun
  cases h0 : startS E f args [] with
  | none => rw [h0] at hrun; cases hrun
  | some x =>
    obtain ⟨k0, s0⟩ := x
    rw [h0] at hrun
    obtain ⟨n, hn⟩ := lim_iff.1 hrun
    refine (calls_ok (G := { S := S, β := fun _ _ => none, ω := fun _ => none }) (soundN hM hO n) h0 hn hl (fun i hi => OwnS.of_tr' (hT i hi)) (fun l t ob ho => by cases ho) (fun l t g hg => by cases hg) hS (fun g p hp => by cases hp) (fun l t ob ho => by cases ho)).mono ?_
    rintro e w' ⟨x, G', he, hd, _⟩
    exact ⟨x, G', he, hd⟩
/-- a law that comes to 'true' -/
theorem law_calls (hM : E.P.follows .mixedOrders = true) (hO : OrcOk E) {f : Nat} {args : List V} {cargs : Array Value} {w : World} {o : List (Nat → Option Ob)} (hrun : run E f args [] = some (.bool true, o)) (hl : args.length = cargs.size)
    (hT : ∀ i, i < args.length → Tr (fun g j => w.cell? ⟨g, j, none⟩) (fun _ _ => none) (args.getD i .undef) (cargs.getD i Go.undef)) :
    Calls E.P f cargs w fun e w' => e = .returned (.bool true) ∧ Below w.heap.size w w' := by
  refine (run_calls hM hO hrun (fun _ _ _ h => h) hl hT).mono ?_
  rintro e w' ⟨x, G', rfl, hd⟩
  have := (hd.own fun _ _ => none).bool_inv
  subst this
  exact ⟨rfl, done_below (G := { S := fun g j => w.cell? ⟨g, j, none⟩, β := fun _ _ => none, ω := fun _ => none }) hd⟩
end Go.Ev
