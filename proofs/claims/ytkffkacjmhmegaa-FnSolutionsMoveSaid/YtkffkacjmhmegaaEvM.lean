/- A region whose order is drawn. The whole. A run that comes to an end is a call that comes back. The equations by which a function is run through, step by step. -/
import Derived.Attr
import Derived.Test.YtkffkacjmhmegaaEvL
import Derived.Test.YtkffkacjmhmegaaEvA
set_option linter.unusedVariables false
set_option linter.unusedSimpArgs false
namespace Go.Ev
open Go
variable {E : Env} {G : Gh} {s : St} {a : Act} {w : World} {all : Array Oper}

theorem op_extractR {P : Program} {d : Option Nat} {ty : TypeId} {pos : String} {af : Array Edge} {gd : Option (Nat × Bool)} {u i : Nat} {l : List V} {v : V} (h : Rel G s a w) (hu : s.t u = .tup l) (hv : l[i]? = some v) : OpOk P ⟨d, .extract (.tmp u) i, ty, pos, af, gd⟩ G s a w v.view s := by
 have h1 := h.slot u
 rw [hu] at h1
 obtain ⟨vs, hx, hl, hT⟩ := h1
 have hi : i < l.length := by
   rcases Nat.lt_or_ge i l.length with h' | h'
   · exact h'
   · rw [List.getElem?_eq_none h'] at hv; cases hv
 have hiv : i < vs.size := by omega
 have hvi : l.getD i .undef = v := by rw [List.getD_eq_getElem?_getD, hv]; rfl
 have h2 := hT i hi
 rw [hvi] at h2
 refine OpOk.tr h (x := vs.getD i Go.undef) ?_ (h2.view fun m e => by rw [e] at h2; exact h2.tup)
 simp only [execOp, Act.eval, hx]
 refine run_val ?_
 simp [Instr.extract, hiv, Array.getD]

theorem dstep_ok {n : Nat} (hS : SoundN E n) (hO : OrcOk E) {i : Nat} {done d1 : List (Nat × V)} {s1 : St} {o : Oper} (ho : all[i]? = some o) (h : dstep E (evI E n) all i s done = some (s1, d1)) (hr : Rel G s a w) (hlow : Low s) {K : Act → World → Prop} {Q : Exit → Act → World → Prop}
   (hK : ∀ a' w' G', Rel G' s1 a' w' → Nx s s1 → Fr s.lv G w G' w' → K a' w') : if Region.wanted o (yielded all a.tmps) then o.wp E.P a w K Q ∨ (o.asks E.P a w ∧ LetsOut Q) else K (a.put o.dst undef) w := by
 have viaG : stepG E n all o s = some s1 → if Region.wanted o (yielded all a.tmps) then o.wp E.P a w K Q ∨ (o.asks E.P a w ∧ LetsOut Q) else K (a.put o.dst undef) w := fun hg => stepG_ok hS hO hg hr hlow hK
 have skipG : guardS all o s = some false → s1 = s.putO o.dst (.tup []) → stepG E n all o s = some s1 := by
   rintro hg rfl
   unfold guardS at hg
   unfold stepG
   split at hg
   · cases hg
   · rename_i j want hgd
     split at hg
     · rename_i b hb
       have : ¬ b = want := by
         have := Option.some.inj hg
         simpa using this
       simp only [hgd, hb]
       rw [if_neg this]
     · rename_i hb
       simp only [hgd, hb]
     · cases hg
 have goG : guardS all o s = some true → stepO E n o s = some s1 → stepG E n all o s = some s1 := by
   intro hg hs
   unfold guardS at hg
   unfold stepG
   split at hg
   · rename_i hgd
     simp only [hgd]
     exact hs
   · rename_i j want hgd
     split at hg
     · rename_i b hb
       have : b = want := by
         have := Option.some.inj hg
         simpa using this
       simp only [hgd, hb]
       rw [if_pos this]
       exact hs
     · cases hg
     · cases hg
 have wantT : guardS all o s = some true → Region.wanted o (yielded all a.tmps) = true := by
   intro hg
   unfold guardS at hg
   split at hg
   · rename_i hgd
     unfold Region.wanted; rw [hgd]
   · rename_i j want hgd
     split at hg
     · rename_i b hb
       have := (wanted_of hr hgd hb).1 b rfl
       rw [this]
       exact Option.some.inj hg
     · cases hg
     · cases hg
 unfold dstep at h
 rw [ho] at h
 dsimp only at h
 cases hg : guardS all o s with
 | none => rw [hg] at h; cases h
 | some g =>
   rw [hg] at h
   cases g with
   | false =>
     dsimp only at h
     obtain ⟨h1, _⟩ := Prod.mk.inj (Option.some.inj h)
     exact viaG (skipG hg h1.symm)
   | true =>
     dsimp only at h
     by_cases hx : isX E.P (E.H s.f) o = true
     · rw [if_pos hx] at h
       by_cases hd : (dynX E.P o s && inDst s o) = true
       · rw [if_pos hd] at h
         simp only [Bool.and_eq_true] at hd
         obtain ⟨v, hv, he⟩ := Option.map_eq_some_iff.1 h
         obtain ⟨rfl, _⟩ := Prod.mk.inj he
         by_cases hex : ∃ u i, o.op = .extract u i
         · obtain ⟨u0, j, hop⟩ := hex
           obtain ⟨u, rfl⟩ : ∃ u, u0 = .tmp u := by
             cases u0 with
             | tmp u => exact ⟨u, rfl⟩
             | _ =>
               exfalso
               unfold xval at hv
               rw [hop] at hv
               dsimp only at hv
               unfold evV at hv
               cases hv
           rw [if_pos (wantT hg)]
           left
           obtain ⟨d, hdst⟩ := isX_dst hx
           unfold xval at hv
           rw [hop] at hv
           dsimp only at hv
           split at hv
           · rename_i l hu
             obtain ⟨v0, hv0, hve⟩ := Option.map_eq_some_iff.1 hv
             have hlt : d < s.n := by
               have := hd.2
               unfold inDst at this
               rw [hdst] at this
               simpa using this
             have hD : drops (E.H s.f) o = [] := by unfold drops; rw [hop]
             have hgd : o.dst.getD 0 = d := by rw [hdst]; rfl
             rw [hgd] at hve
             have hrun : ∀ {x w'}, (execOp a.eval ⟨o.dst, .extract (.tmp u) j, o.type, o.pos, o.after, o.guard⟩).run E.P w = .ok (.value x) w' → (execOp a.eval o).run E.P w = .ok (.value x) w' := fun h1 => by
               rw [← hop] at h1
               exact h1
             by_cases how : memN d (E.H s.f).own = true
             · have hvv : v = if memN d (E.H s.f).frz then v0.settle else v0 := by
                 rw [← hve]
                 unfold extV
                 rw [if_pos how]
               subst hvv
               clear hve
               have hop2 := op_extractC (P := E.P) (d := o.dst) (ty := o.type) (pos := o.pos) (af := o.after) (gd := o.guard) (i := j) hr hu hv0
               have hop3 : OpOk E.P ⟨o.dst, .extract (.tmp u) j, o.type, o.pos, o.after, o.guard⟩ G s a w (if memN d (E.H s.f).frz then v0.settle else v0) (s.put u (.tup (l.map V.view))) := by
                 split
                 · exact hop2.settle rfl
                 · exact hop2
               clear hop2
               generalize (if memN d (E.H s.f).frz then v0.settle else v0) = v1 at hop3 hK ⊢
               obtain ⟨x, w', G1, h1, h2, h3, h4⟩ := hop3
               obtain ⟨G2, p1, p2, _⟩ := h2.put h3 d hlt
               have hC : cuts (E.H s.f) o = [u] := by unfold cuts; rw [hop]; dsimp only; rw [hgd, if_pos how]
               have hset : s.setX (E.H s.f) o v1 = (s.put u (.tup (l.map V.view))).put d v1 := by
                 unfold St.setX
                 rw [hD, hC, hdst]
                 unfold St.put setT
                 congr 1
                 funext x
                 unfold upd
                 by_cases hx1 : x = d
                 · subst hx1; simp
                 · have : ¬ d = x := fun e => hx1 e.symm
                   simp only [Option.some.injEq, this, if_false, memN, hx1]
                   by_cases hx2 : x = u
                   · subst hx2; simp [hu, V.cut, memN]
                   · simp [hx2, memN]
               rw [hset] at hK
               unfold Oper.wp
               rw [hrun h1, Oper.upon_value]
               exact hK _ w' G2 (by rw [hdst]; exact p1) (Nx.trans (.put _ _ _) (.put _ _ _)) (h4.trans p2)
             · have hvv : v = v0.view := by
                 rw [← hve]
                 unfold extV
                 rw [if_neg how]
               subst hvv
               clear hve
               obtain ⟨x, w', G1, h1, h2, h3, h4⟩ := op_extractR (P := E.P) (d := o.dst) (ty := o.type) (pos := o.pos) (af := o.after) (gd := o.guard) (i := j) hr hu hv0
               obtain ⟨G2, p1, p2, _⟩ := h2.put h3 d hlt
               have hC : cuts (E.H s.f) o = [] := by unfold cuts; rw [hop]; dsimp only; rw [hgd, if_neg how]
               have hset : s.setX (E.H s.f) o v0.view = s.put d v0.view := by rw [setX_eq _ _ hC, hD, hdst]; rfl
               rw [hset] at hK
               unfold Oper.wp
               rw [hrun h1, Oper.upon_value]
               exact hK _ w' G2 (by rw [hdst]; exact p1) (.put _ _ _) (h4.trans p2)
           · cases hv
         · exact viaG (goG hg (xval_step hx hd.1 hd.2 hv fun u j e => hex ⟨u, j, e⟩))
       · rw [if_neg hd] at h; cases h
     · rw [if_neg hx] at h
       by_cases hl : isL (E.H s.f) o = true
       · rw [if_pos hl] at h
         by_cases hd : inDst s o = true
         · rw [if_pos hd] at h
           obtain ⟨v, hv, he⟩ := Option.map_eq_some_iff.1 h
           obtain ⟨rfl, _⟩ := Prod.mk.inj he
           exact viaG (goG hg (lval_step hl hd hv))
         · rw [if_neg hd] at h; cases h
       · rw [if_neg hl] at h
         split at h
         · rename_i s2 h1
           split at h
           · obtain ⟨rfl, _⟩ := Prod.mk.inj (Option.some.inj h)
             exact viaG (goG hg h1)
           · cases h
         · cases h

theorem listed_set {listed : Array Bool} {i j : Nat} (h : i < listed.size) : (listed.setIfInBounds i true).getD j false = (listed.getD j false || j == i) := by
 by_cases e : i = j
 · subst e; simp [h]
 · rw [getD_set_ne false e]
   have : (j == i) = false := by simp; exact fun h => e h.symm
   rw [this, Bool.or_false]
theorem draw_wp {n : Nat} (hS : SoundN E n) (hO : OrcOk E) {H : Hint} {rank : Nat → Nat} {Q : Exit → Act → World → Prop} : ∀ (m : Nat) {c : List Nat} {listed : Array Bool} {G : Gh} {s s' : St} {a : Act} {w : World} {done : List (Nat × V)}, c.length = m → drun E (evI E n) all c s done = some s' → Rel G s a w → Low s → E.H s.f = H →
   listed.size = all.size → (∀ i, i ∈ c ↔ (i < all.size ∧ listed.getD i false = false)) → c.Nodup → Closed all listed → (∀ i ∈ c, ∀ o, all[i]? = some o → ∀ e ∈ edges o, e < all.size ∧ rank e < rank i) → c.Pairwise (Fit E H all) → (∀ i ∈ c, selfOk H all i = true) → Held E H all done c →
   (∀ a' w' G', Rel G' s' a' w' → Nx s s' → Fr s.lv G w G' w' → Q .normal a' w') → wpAny E.P .any all Q m listed a w := by
 intro m
 induction m with
 | zero =>
   intro c listed G s s' a w done hm h hr hlow hH hsz hc hnd hcl hlin hpw hself hheld hQ
   obtain rfl : c = [] := List.eq_nil_of_length_eq_zero hm
   obtain rfl := Option.some.inj h
   refine ⟨?_, hQ a w G hr (.refl _) (Fr.refl _ _ _)⟩
   refine List.eq_nil_iff_forall_not_mem.2 fun i hi => ?_
   rw [mem_ready] at hi
   obtain ⟨h0, o, ho, _⟩ := hi
   have hlt := (Array.getElem?_eq_some_iff.1 ho).1
   have : i ∈ ([] : List Nat) := (hc i).2 ⟨hlt, by
     have e : i < listed.size := by omega
     simp [e] at h0 ⊢; exact h0⟩
   cases this
 | succ m ih =>
   intro c listed G s s' a w done hm h hr hlow hH hsz hc hnd hcl hlin hpw hself hheld hQ
   have hready : ∀ i, i ∈ Region.ready .any all listed → i ∈ c ∧ ∃ o, all[i]? = some o ∧ ∀ e ∈ edges o, listed.getD e false = true := by
     intro i hi
     rw [mem_ready] at hi
     obtain ⟨h0, o, ho, he⟩ := hi
     have hlt := (Array.getElem?_eq_some_iff.1 ho).1
     refine ⟨(hc i).2 ⟨hlt, by
       have e : i < listed.size := by omega
       simp [e] at h0 ⊢; exact h0⟩, o, ho, fun e hm' => ?_⟩
     obtain ⟨e', h1, h2, rfl⟩ := edges_inv hm'
     exact he e' h1 h2
   refine ⟨fun hnone => ?_, fun i hi => ?_⟩
   · -- one is always ready
     exfalso
     have none : ∀ r i, i ∈ c → rank i ≤ r → False := by
       intro r
       induction r with
       | zero =>
         intro i hi hrk
         have : i ∈ Region.ready .any all listed := by
           rw [mem_ready]
           obtain ⟨hlt, hlf⟩ := (hc i).1 hi
           refine ⟨?_, all[i], Array.getElem?_eq_getElem hlt, fun e he hb => ?_⟩
           · have e : i < listed.size := by omega
             simp [e] at hlf ⊢; exact hlf
           · have := (hlin i hi _ (Array.getElem?_eq_getElem hlt) _ (edges_mem he hb)).2
             omega
         rw [hnone] at this; cases this
       | succ r ihr =>
         intro i hi hrk
         obtain ⟨hlt, hlf⟩ := (hc i).1 hi
         by_cases hall : ∀ e ∈ edges all[i], listed.getD e false = true
         · have : i ∈ Region.ready .any all listed := by
             rw [mem_ready]
             refine ⟨?_, all[i], Array.getElem?_eq_getElem hlt, fun e he hb => hall _ (edges_mem he hb)⟩
             have e : i < listed.size := by omega
             simp [e] at hlf ⊢; exact hlf
           rw [hnone] at this; cases this
         · obtain ⟨e, he, hne⟩ : ∃ e, e ∈ edges all[i] ∧ ¬ listed.getD e false = true := Classical.byContradiction fun hx => hall fun e he => Classical.byContradiction fun hy => hx ⟨e, he, hy⟩
           obtain ⟨h1, h2⟩ := hlin i hi _ (Array.getElem?_eq_getElem hlt) e he
           exact ihr e ((hc e).2 ⟨h1, by simpa using hne⟩) (by omega)
     obtain ⟨i, hi⟩ : ∃ i, i ∈ c := by
       cases c with
       | nil => cases hm
       | cons i c => exact ⟨i, List.mem_cons_self⟩
     exact none _ i hi (Nat.le_refl _)
   · obtain ⟨hic, o, ho, hed⟩ := hready i hi
     have hlt := (Array.getElem?_eq_some_iff.1 ho).1
     have hil : i < listed.size := by omega
     obtain ⟨pre, post, rfl⟩ := List.append_of_mem hic
     subst hH
     have hpw2 := List.pairwise_append.1 hpw
     have hnprec : ∀ b, b ∈ pre ++ i :: post → prec all all.size b i = false := by
       intro b hb
       cases e : prec all all.size b i with
       | false => rfl
       | true =>
         have := prec_listed hcl _ _ o ho hed e
         rw [((hc b).1 hb).2] at this; cases this
     have hfit : ∀ b ∈ pre, Fit E (E.H s.f) all b i := fun b hb => hpw2.2.2 b hb i List.mem_cons_self
     have hcomm : ∀ b ∈ pre, (commOk E.P (E.H s.f) all b i || sibOk (E.H s.f) all b i) = true := by
       intro b hb
       have := hfit b hb
       unfold Fit pairOk at this
       rw [hnprec b (List.mem_append_left _ hb)] at this
       rw [Bool.false_or, Bool.and_eq_true] at this
       exact this.1
     have hfr := front pre (fun b hb => ⟨hcomm b hb, hself b (List.mem_append_left _ hb), hnprec b (List.mem_append_left _ hb)⟩)
       (List.pairwise_append.2 ⟨hpw2.1, List.pairwise_singleton _ _, fun x hx y hy => by rw [List.mem_singleton.1 hy]; exact hfit x hx⟩)
       (fun k v hm' => by
         obtain ⟨o', h1, h2, h3⟩ := hheld k v hm'
         exact ⟨o', h1, h2, fun b hb => h3 b (by
           rcases List.mem_append.1 hb with hb | hb
           · exact List.mem_append_left _ hb
           · rw [List.mem_singleton.1 hb]; exact List.mem_append_right _ List.mem_cons_self)⟩) h
     obtain ⟨⟨s1, d1⟩, h1, h2⟩ := Option.bind_eq_some_iff.1 hfr
     unfold wpOp
     rw [ho]
     dsimp only
     have hni : i ∉ pre ++ post := by
       have := List.perm_middle.nodup_iff.1 hnd
       exact (List.nodup_cons.1 this).1
     have hnd' : (pre ++ post).Nodup := (List.nodup_cons.1 (List.perm_middle.nodup_iff.1 hnd)).2
     have hsub : List.Sublist (pre ++ post) (pre ++ i :: post) := List.Sublist.append (List.Sublist.refl _) (List.sublist_cons_self _ _)
     refine dstep_ok hS hO ho h1 hr hlow fun a1 w1 G1 r1 nx f1 => ?_
     refine ih (c := pre ++ post) (listed := listed.setIfInBounds i true) (s := s1) (done := d1) (by simp at hm ⊢; omega) h2 r1 (nx.low hlow) (by rw [nx.f]) (by simpa using hsz) (fun j => ?_) hnd' (fun j oj hj hoj e he => ?_) (fun j hj => hlin j (hsub.subset hj)) (hpw.sublist hsub) (fun j hj => hself j (hsub.subset hj)) ?_ fun a' w' G' r' nx' f' => hQ a' w' G' r' (nx.trans nx') (f1.trans (nx.lv ▸ f'))
     · rw [listed_set hil]
       have h3 := hc j
       constructor
       · intro hj
         obtain ⟨k1, k2⟩ := h3.1 (hsub.subset hj)
         have : j ≠ i := by rintro rfl; exact hni hj
         exact ⟨k1, by rw [k2]; simpa using this⟩
       · rintro ⟨k1, k2⟩
         simp only [Bool.or_eq_false_iff, beq_eq_false_iff_ne] at k2
         have hj := h3.2 ⟨k1, k2.1⟩
         rcases List.mem_append.1 hj with hj | hj
         · exact List.mem_append_left _ hj
         · rcases List.mem_cons.1 hj with hj | hj
           · exact absurd hj k2.2
           · exact List.mem_append_right _ hj
     · rw [listed_set hil] at hj ⊢
       rw [Bool.or_eq_true] at hj
       rcases hj with hj | hj
       · rw [hcl j oj hj hoj e he]; rfl
       · have hji : j = i := by simpa using hj
         subst hji
         rw [ho] at hoj
         obtain rfl := Option.some.inj hoj
         rw [hed e he]; rfl
     · refine Held.step (fun k v hm' => ?_) h1 fun x hx hl b hb ob hob => ?_
       · obtain ⟨o', h3, h4, h5⟩ := hheld k v hm'
         exact ⟨o', h3, h4, fun b hb => h5 b (hsub.subset hb)⟩
       · rw [ho] at hx
         obtain rfl := Option.some.inj hx
         rcases List.mem_append.1 hb with hb | hb
         · have hcm := hcomm b hb
           rcases Bool.or_eq_true _ _ ▸ hcm with hcm | hcm
           rotate_left
           · rcases Bool.or_eq_true _ _ ▸ hcm with hcm | hcm
             · obtain ⟨_, _, _, _, _, _, _, _, _, _, _, _, hy, _⟩ := sib_inv hcm
               rw [ho] at hy
               obtain rfl := Option.some.inj hy
               simp [isL] at hl
             · obtain ⟨_, _, _, _, _, _, _, _, _, _, hy, _⟩ := sibM_inv hcm
               rw [ho] at hy
               obtain rfl := Option.some.inj hy
               simp [isL] at hl
           obtain ⟨x, y, q1, q2, _, q3, _⟩ := commOk_inv hcm
           rw [hob] at q1
           obtain rfl := Option.some.inj q1
           rw [ho] at q2
           obtain rfl := Option.some.inj q2
           refine List.all_eq_true.2 fun z hz => ?_
           have := List.all_eq_true.1 q3 z hz
           rw [memN_app] at this
           simp only [Bool.not_eq_true', Bool.or_eq_false_iff] at this ⊢
           exact this.1
         · exact ((List.pairwise_cons.1 hpw2.2.1).1 b hb).held ho hob hl

theorem linOk_spec : ∀ (c seen : List Nat), linOk all seen c = true → c.Nodup ∧ (∀ i ∈ c, i ∉ seen) ∧ ∀ pre i post, c = pre ++ i :: post → ∃ o, all[i]? = some o ∧ ∀ e ∈ edges o, e ∈ seen ∨ e ∈ pre := by
 intro c
 induction c with
 | nil => intro seen _; exact ⟨List.nodup_nil, fun i hi => (by cases hi), fun pre i post h => by cases pre <;> cases h⟩
 | cons i c ih =>
   intro seen h
   unfold linOk at h
   simp only [Bool.and_eq_true, Bool.not_eq_true'] at h
   obtain ⟨⟨h1, h2⟩, h3⟩ := h
   obtain ⟨k1, k2, k3⟩ := ih (i :: seen) h3
   have hi : i ∉ seen := fun hm => by rw [memN_iff.2 hm] at h2; cases h2
   refine ⟨List.nodup_cons.2 ⟨fun hm => k2 i hm List.mem_cons_self, k1⟩, fun j hj => ?_, fun pre j post e => ?_⟩
   · rcases List.mem_cons.1 hj with rfl | hj
     · exact hi
     · exact fun hm => k2 j hj (List.mem_cons_of_mem _ hm)
   · cases pre with
     | nil =>
       obtain ⟨rfl, rfl⟩ := List.cons.inj e
       split at h1
       · rename_i o ho
         exact ⟨o, ho, fun e he => .inl (memN_iff.1 (List.all_eq_true.1 h1 e he))⟩
       · cases h1
     | cons p pre =>
       obtain ⟨rfl, e'⟩ := List.cons.inj e
       obtain ⟨o, ho, he⟩ := k3 pre j post e'
       refine ⟨o, ho, fun e hm => ?_⟩
       rcases he e hm with h | h
       · rcases List.mem_cons.1 h with rfl | h
         · exact .inr List.mem_cons_self
         · exact .inl h
       · exact .inr (List.mem_cons_of_mem _ h)
theorem pairsOk_spec {H : Hint} : ∀ {c : List Nat}, pairsOk E.P H all c = true → c.Pairwise (Fit E H all) ∧ ∀ i ∈ c, selfOk H all i = true := by
 intro c
 induction c with
 | nil => intro _; exact ⟨List.Pairwise.nil, fun i hi => by cases hi⟩
 | cons a c ih =>
   intro h
   unfold pairsOk at h
   simp only [Bool.and_eq_true] at h
   obtain ⟨⟨h1, h2⟩, h3⟩ := h
   obtain ⟨k1, k2⟩ := ih h3
   refine ⟨List.pairwise_cons.2 ⟨fun i hi => List.all_eq_true.1 h2 i hi, k1⟩, fun i hi => ?_⟩
   rcases List.mem_cons.1 hi with rfl | hi
   · exact h1
   · exact k2 i hi
theorem Rel.drawn (h : Rel G s a w) : Rel G s a { w with drawn := w.drawn + 1 } := ⟨h.size, h.defers, fun t => (h.slot t).mono (Le.refl _) (fun _ _ _ e => ⟨rfl, fun _ => rfl, e⟩), fun lv t ob ho => by
 obtain ⟨g, a1, a2, a3⟩ := h.obj lv t ob ho
 exact ⟨g, a1, a2, a3.mono (Le.refl _) ⟨rfl, fun _ => rfl⟩ fun j k hk => ⟨rfl, fun _ => rfl, hk⟩⟩, h.dom, h.imm, h.lim⟩
theorem draw_all {n : Nat} (hS : SoundN E n) (hO : OrcOk E) {c : List Nat} {s' : St} {Q : Exit → Act → World → Prop} (hok : drawOk E.P (E.H s.f) all c = true) (h : drun E (evI E n) all c s [] = some s') (hr : Rel G s a w) (hlow : Low s)
   (hQ : ∀ a' w' G', Rel G' s' a' w' → Nx s s' → Fr s.lv G w G' w' → Q .normal a' w') : wpAny E.P .any all Q all.size (Array.replicate all.size false) a { w with drawn := w.drawn + 1 } := by
 unfold drawOk at hok
 simp only [Bool.and_eq_true, beq_iff_eq] at hok
 obtain ⟨⟨⟨h1, h2⟩, h3⟩, h4⟩ := hok
 obtain ⟨k1, _, k3⟩ := linOk_spec c [] h3
 obtain ⟨p1, p2⟩ := pairsOk_spec h4
 have hmem : ∀ i, i ∈ c ↔ i < all.size := by
   intro i
   constructor
   · intro hi
     obtain ⟨pre, post, e⟩ := List.append_of_mem hi
     obtain ⟨o, ho, _⟩ := k3 pre i post e
     exact (Array.getElem?_eq_some_iff.1 ho).1
   · intro hi
     exact memN_iff.1 (List.all_eq_true.1 h2 i (List.mem_range.2 hi))
 refine draw_wp hS hO (H := E.H s.f) (rank := fun i => c.idxOf i) all.size h1 h hr.drawn hlow rfl (by simp) (fun i => ?_) k1 (fun j o hj => ?_) (fun i hi o ho e he => ?_) p1 p2 (fun k v hm => by cases hm) fun a' w' G' r' nx f' => hQ a' w' G' r' nx ⟨f'.os, f'.tape, f'.output, f'.size, f'.keep, f'.imm, f'.outer⟩
 · rw [hmem]
   constructor
   · intro hi; exact ⟨hi, by simp [hi]⟩
   · exact fun hi => hi.1
 · by_cases hlt : j < all.size <;> simp [hlt] at hj
 · obtain ⟨pre, post, e'⟩ := List.append_of_mem hi
   obtain ⟨o', ho', hx⟩ := k3 pre i post e'
   rw [ho] at ho'
   obtain rfl := Option.some.inj ho'
   rcases hx e he with h | h
   · cases h
   · have hni : i ∉ pre := by
       rw [e'] at k1
       have := (List.nodup_append.1 k1).2.2
       exact fun hm => this i hm i List.mem_cons_self rfl
     refine ⟨(hmem e).1 (by rw [e']; exact List.mem_append_left _ h), ?_⟩
     show c.idxOf e < c.idxOf i
     rw [e', List.idxOf_append, List.idxOf_append, if_pos h, if_neg hni]
     have := List.idxOf_lt_length_of_mem h
     simp; omega
end Go.Ev
namespace Go.Ev
open Go
variable {E : Env} {G : Gh} {s : St} {a : Act} {w : World}

theorem soundN (hM : E.P.follows .mixedOrders = true) (hO : OrcOk E) : ∀ n, SoundN E n := by
 intro n
 induction n with
 | zero => intro its s r h; simp [evI] at h
 | succ n ih =>
   intro its s r h hlow fn hf hres G a w hr k hk b cs hb hkind
   have next : ∀ {its' : List It} {s' : St} {G' : Gh} {a' : Act} {w' : World} {k' : List Item}, evI E n its' s' = some r → Rel G' s' a' w' → Nx s s' → Fr s.lv G w G' w' → Its its' k' → Steps E.P (lone (b.at a k) cs w) (lone (b.at a' k') cs w') →
       ∃ x w'' fr G'', Steps E.P (lone (b.at a k) cs w) (lone fr cs w'') ∧ fr.fn = s.f ∧ fr.leaving E.P w'' (.returned x) ∧ Done s.lv G w r.2 r.1 x w'' G'' ∧ LowL r.2 := by
     intro its' s' G' a' w' k' hev r' nx f' hk' hst
     obtain ⟨x, w'', fr, G'', h1, h2, h3, h4, h5⟩ := ih its' s' r hev (nx.low hlow) fn (by rw [nx.f]; exact hf) (by rw [nx.r]; exact hres) G' a' w' r' k' hk' b cs (by rw [nx.f]; exact hb) hkind
     exact ⟨x, w'', fr, G'', hst.trans h1, h2.trans nx.f, h3, (nx.lv ▸ h4).pre f', h5⟩
   rw [evI] at h
   cases its with
   | nil =>
     cases hk
     unfold stepI at h
     dsimp only at h
     split at h
     · rename_i e
       split at e <;> cases e
     · rename_i v o e
       split at e
       · rename_i v' s1 hv
         obtain ⟨rfl, rfl⟩ := Out.done.inj e
         obtain rfl := Option.some.inj h
         obtain ⟨x, G', h1, h2⟩ := leaves (b := b) (G' := G) hr hf hres hv hb hkind
         exact ⟨x, w, _, G', .one step_end, hb, h1 [], h2, endV_low hv hlow⟩
       · cases e
     · cases h
     · rename_i e
       split at e <;> cases e
     · rename_i e
       split at e <;> cases e
   | cons i its =>
     cases hk with
     | blk id hk => exact next (by simpa [stepI] using h) hr (.refl _) (Fr.refl _ _ _) hk (.one step_inBlock)
     | lp c hk =>
       unfold stepI at h
       dsimp only at h
       split at h
       · rename_i k2 s2 e
         split at e
         · rename_i s' hc
           obtain ⟨rfl, rfl⟩ := Out.go.inj e
           obtain ⟨G', h1, h2, h3⟩ := canon_ok hr hlow hc
           exact next h h1 h3 h2 (.code c (.lp c hk)) (.one step_inLoop)
         · cases e
       · rename_i e; split at e <;> cases e
       · cases h
       · rename_i e; split at e <;> cases e
       · rename_i e; split at e <;> cases e
     | code c hk =>
       rename_i k
       cases c with
       | skip => exact next (by simpa [stepI] using h) hr (.refl _) (Fr.refl _ _ _) hk (.one step_skip)
       | seq x y => exact next (its' := .code x :: .code y :: its) (by simpa [stepI] using h) hr (.refl _) (Fr.refl _ _ _) (.code x (.code y hk)) (.one step_seq)
       | block id c => exact next (its' := .code c :: .blk id :: its) (by simpa [stepI] using h) hr (.refl _) (Fr.refl _ _ _) (.code c (.blk id hk)) (.one step_block)
       | region id ops dr =>
         cases dr with
         | true =>
           have hds : stepI E (.code (.region id ops true) :: its) s = if drawOk E.P (E.H s.f) ops (orderOf (E.H s.f) id ops.size) then .draw ops (orderOf (E.H s.f) id ops.size) its s else .fail := by simp [stepI]
           rw [hds] at h
           by_cases hok : drawOk E.P (E.H s.f) ops (orderOf (E.H s.f) id ops.size) = true
           · rw [if_pos hok] at h
             dsimp only at h
             split at h
             · rename_i s' h1
               have hwp := draw_all (Q := fun e a' w' => e = .normal ∧ ∃ G', Rel G' s' a' w' ∧ Nx s s' ∧ Fr s.lv G w G' w') ih hO hok h1 hr hlow fun a' w' G' r' nx f' => ⟨rfl, G', r', nx, f'⟩
               obtain ⟨e, a', w', ⟨rfl, G', r', nx, f'⟩, harr⟩ := wp_region_any (id := id) hM hwp b k cs
               exact next h r' nx f' hk harr
             · cases h
           · rw [if_neg hok] at h; cases h
         | false =>
           have h' : evI E n (.ops ops.toList ops :: its) s = some r := by simpa [stepI] using h
           cases n with
           | zero => simp [evI] at h'
           | succ n =>
             obtain ⟨s', h1, h2⟩ := evI_ops h'
             have h1' := stepsO_mono (Nat.le_succ n) h1
             have hwp : wpOps E.P ops (fun e a' w' => e = .normal ∧ ∃ G', Rel G' s' a' w' ∧ Nx s s' ∧ Fr s.lv G w G' w') (List.range' 0 ops.size) a w :=
               region_ok ih hO ops.size 0 (by omega) (by simpa using h1') hr hlow fun a' w' G' r' nx f' => ⟨rfl, G', r', nx, f'⟩
             rw [← List.range_eq_range'] at hwp
             obtain ⟨e, a', w', ⟨rfl, G', r', nx, f'⟩, harr⟩ := wp_ops (P := E.P) _ a w hwp b k cs
             exact next (evI_le E (Nat.le_succ n) h2) r' nx f' hk (.head step_region harr)
       | cond x c1 c2 =>
         unfold stepI at h
         dsimp only at h
         have hx := hr.see E.P 0 x
         generalize s.see E.P 0 x = u at h hx
         cases u with
         | bool t =>
           have hv := hx.bool_inv
           dsimp only at h
           cases t with
           | true => exact next (its' := .code c1 :: its) (by simpa using h) hr (.refl _) (Fr.refl _ _ _) (.code c1 hk) (.one (step_cond hv))
           | false => exact next (its' := .code c2 :: its) (by simpa using h) hr (.refl _) (Fr.refl _ _ _) (.code c2 hk) (.one (step_cond hv))
         | _ => cases h
       | loop c =>
         have h' : evI E n (.lp c :: its) s = some r := by simpa [stepI] using h
         cases n with
         | zero => simp [evI] at h'
         | succ n =>
           rw [evI] at h'
           unfold stepI at h'
           dsimp only at h'
           split at h'
           · rename_i k2 s2 e
             split at e
             · rename_i s' hc
               obtain ⟨rfl, rfl⟩ := Out.go.inj e
               obtain ⟨G', h1, h2, h3⟩ := canon_ok hr hlow hc
               exact next (evI_le E (Nat.le_succ n) h') h1 h3 h2 (.code c (.lp c hk)) (.one step_loop)
             · cases e
           · rename_i e; split at e <;> cases e
           · cases h'
           · rename_i e; split at e <;> cases e
           · rename_i e; split at e <;> cases e
       | exit id =>
         unfold stepI at h
         dsimp only at h
         cases hx : outOf id its with
         | none => rw [hx] at h; cases h
         | some its' =>
           rw [hx] at h
           obtain ⟨k', h1, h2⟩ := hk.exit hx
           exact next h hr (.refl _) (Fr.refl _ _ _) h2 (.one (step_exit h1))
       | ret =>
         have h' : evI E n [] s = some r := by simpa [stepI] using h
         cases n with
         | zero => simp [evI] at h'
         | succ n =>
           rw [evI] at h'
           unfold stepI at h'
           dsimp only at h'
           split at h'
           · rename_i e
             split at e <;> cases e
           · rename_i v o e
             split at e
             · rename_i v' s1 hv
               obtain ⟨rfl, rfl⟩ := Out.done.inj e
               obtain rfl := Option.some.inj h'
               obtain ⟨x, G', h1, h2⟩ := leaves (b := b) (G' := G) hr hf hres hv hb hkind
               exact ⟨x, w, _, G', .one step_ret, hb, h1 _, h2, endV_low hv hlow⟩
             · cases e
           · cases h'
           · rename_i e
             split at e <;> cases e
           · rename_i e
             split at e <;> cases e
       | _ => simp [stepI] at h
end Go.Ev
namespace Go.Ev
open Go Go.RowKit
variable {E : Env}

theorem done_below {G G' : Gh} {w w' : World} {o : List (Nat → Option Ob)} {v : V} {x : Value} (h : Done 0 { S := G.S, β := fun _ _ => none, ω := fun _ => none } w o v x w' G') : Below w.heap.size w w' :=
 ⟨h.fr.os, h.fr.tape, h.fr.output, h.fr.size, fun k hk => (h.fr.keep k hk (fun p hp => by cases hp)).1⟩
theorem run_calls (hM : E.P.follows .mixedOrders = true) (hO : OrcOk E) {f : Nat} {args : List V} {cargs : Array Value} {w : World} {v : V} {o : List (Nat → Option Ob)} (hrun : run E f args [] = some (v, o)) {S : Nat → Nat → Option Value} (hS : ∀ g j c, S g j = some c → w.cell? ⟨g, j, none⟩ = some c) (hl : args.length = cargs.size)
   (hT : ∀ i, i < args.length → Tr S (fun _ _ => none) (args.getD i .undef) (cargs.getD i Go.undef)) :
   Calls E.P f cargs w fun e w' => ∃ x G', e = .returned x ∧ Done 0 { S := S, β := fun _ _ => none, ω := fun _ => none } w o v x w' G' := by
 unfold run at hrun
 cases h0 : startS E f args [] with
 | none => rw [h0] at hrun; cases hrun
 | some x =>
   obtain ⟨k0, s0⟩ := x
   rw [h0] at hrun
   obtain ⟨n, hn⟩ := lim_iff.1 hrun
   refine (calls_ok (G := { S := S, β := fun _ _ => none, ω := fun _ => none }) (soundN hM hO n) h0 hn hl (fun i hi => OwnS.of_tr' (hT i hi)) (fun l t ob ho => by cases ho) (fun l t g hg => by cases hg) hS (fun g p hp => by cases hp) (fun l t ob ho => by cases ho)).mono ?_
   rintro e w' ⟨x, G', he, hd, _⟩
   exact ⟨x, G', he, hd⟩
theorem law_calls (hM : E.P.follows .mixedOrders = true) (hO : OrcOk E) {f : Nat} {args : List V} {cargs : Array Value} {w : World} {o : List (Nat → Option Ob)} (hrun : run E f args [] = some (.bool true, o)) (hl : args.length = cargs.size)
   (hT : ∀ i, i < args.length → Tr (fun g j => w.cell? ⟨g, j, none⟩) (fun _ _ => none) (args.getD i .undef) (cargs.getD i Go.undef)) :
   Calls E.P f cargs w fun e w' => e = .returned (.bool true) ∧ Below w.heap.size w w' := by
 refine (run_calls hM hO hrun (fun _ _ _ h => h) hl hT).mono ?_
 rintro e w' ⟨x, G', rfl, hd⟩
 have := (hd.own fun _ _ => none).bool_inv
 subst this
 exact ⟨rfl, done_below (G := { S := fun g j => w.cell? ⟨g, j, none⟩, β := fun _ _ => none, ω := fun _ => none }) hd⟩
end Go.Ev
namespace Go.Ev
open Go
variable {E : Env} {l : List Oper} {all : Array Oper} {k : List It} {s : St}

theorem q_skip : lim E (.code .skip :: k) s = lim E k s := lim_step ..
theorem q_seq (x y : Code) : lim E (.code (.seq x y) :: k) s = lim E (.code x :: .code y :: k) s := lim_step ..
theorem q_region (i : Nat) (os : Array Oper) : lim E (.code (.region i os false) :: k) s = lim E (.ops os.toList os :: k) s := lim_step ..
noncomputable def drawL (E : Env) (k : List It) : Option St → Option (V × List (Nat → Option Ob))
 | some s => lim E k s
 | none => none
theorem q_draw (i : Nat) (os : Array Oper) : lim E (.code (.region i os true) :: k) s = if drawOk E.P (E.H s.f) os (orderOf (E.H s.f) i os.size) = true then drawL E k (drun E (Ev.lim E) os (orderOf (E.H s.f) i os.size) s []) else none := by
 rw [lim_step]
 show Out.lim E (if drawOk E.P (E.H s.f) os (orderOf (E.H s.f) i os.size) then .draw os (orderOf (E.H s.f) i os.size) k s else .fail) = _
 split
 · show Option.bind _ _ = _
   cases drun E (Ev.lim E) os (orderOf (E.H s.f) i os.size) s [] <;> rfl
 · rfl
theorem q_block (i : Nat) (c : Code) : lim E (.code (.block i c) :: k) s = lim E (.code c :: .blk i :: k) s := lim_step ..
theorem q_blk (i : Nat) : lim E (.blk i :: k) s = lim E k s := lim_step ..
theorem q_loop (c : Code) : lim E (.code (.loop c) :: k) s = lim E (.lp c :: k) s := lim_step ..
theorem q_ret : lim E (.code .ret :: k) s = lim E [] s := lim_step ..
noncomputable def endL : Option (V × St) → Option (V × List (Nat → Option Ob))
 | some (v, s) => some (v, s.o)
 | none => none
theorem endL_some (v : V) : endL (some (v, s)) = some (v, s.o) := rfl
theorem q_nil : lim E [] s = endL (endV E.P s) := by
 rw [lim_step]
 show Out.lim E (match endV E.P s with | some (v, s1) => .done v s1.o | none => .fail) = _
 cases endV E.P s <;> rfl
theorem q_ops0 : lim E (.ops [] all :: k) s = lim E k s := lim_step ..
noncomputable def exitL (E : Env) (s : St) : Option (List It) → Option (V × List (Nat → Option Ob))
 | some k => lim E k s
 | none => none
theorem exitL_some (k : List It) : exitL E s (some k) = lim E k s := rfl
theorem q_exit (i : Nat) : lim E (.code (.exit i) :: k) s = exitL E s (outOf i k) := by
 rw [lim_step]
 show Out.lim E (match outOf i k with | some k' => .go k' s | none => .fail) = _
 cases outOf i k <;> rfl
theorem out_code (i : Nat) (c : Code) : outOf i (.code c :: k) = outOf i k := rfl
theorem out_ops (i : Nat) : outOf i (.ops l all :: k) = outOf i k := rfl
theorem out_lp (i : Nat) (c : Code) : outOf i (.lp c :: k) = outOf i k := rfl
theorem out_blk (i j : Nat) : outOf i (.blk j :: k) = if j = i then some k else outOf i k := rfl
noncomputable def condL (E : Env) (a c : List It) (s : St) : V → Option (V × List (Nat → Option Ob))
 | .bool v => if v = true then lim E a s else lim E c s
 | _ => none
theorem condL_b (a c : List It) (v : Bool) : condL E a c s (.bool v) = if v = true then lim E a s else lim E c s := rfl
theorem q_cond (x : Operand) (c d : Code) : lim E (.code (.cond x c d) :: k) s = condL E (.code c :: k) (.code d :: k) s (s.see E.P 0 x) := by
 rw [lim_step]
 show Out.lim E (match s.see E.P 0 x with | .bool v => if v then .go (.code c :: k) s else .go (.code d :: k) s | _ => .fail) = _
 cases s.see E.P 0 x <;> try rfl
 rename_i v; cases v <;> rfl
noncomputable def lpL (E : Env) (c : Code) (k : List It) : Option St → Option (V × List (Nat → Option Ob))
 | some s => iter E c k s
 | none => none
theorem lpL_some (c : Code) : lpL E c k (some s) = iter E c k s := rfl
theorem q_lp (c : Code) : lim E (.lp c :: k) s = lpL E c k (canon s (hintAt (E.H s.f) k)) := by
 rw [lim_step]
 show Out.lim E (match canon s (hintAt (E.H s.f) k) with | some s' => .go (.code c :: .lp c :: k) s' | none => .fail) = _
 cases canon s (hintAt (E.H s.f) k) <;> rfl
noncomputable def opL (E : Env) (k : List It) : Option St → Option (V × List (Nat → Option Ob))
 | some s => lim E k s
 | none => none
theorem opL_some : opL E k (some s) = lim E k s := rfl
theorem opL_none : opL E k none = none := rfl
theorem opL_ite {p : Prop} [Decidable p] (x y : Option St) : opL E k (if p then x else y) = if p then opL E k x else opL E k y := by split <;> rfl
noncomputable def guardL (E : Env) (o : Oper) (l : List Oper) (all : Array Oper) (k : List It) (s : St) (want : Bool) : Option V → Option (V × List (Nat → Option Ob))
 | some (.bool v) => if v = want then lim E (.ops (o :: l) all :: k) s else lim E (.ops l all :: k) (s.putO o.dst (.tup []))
 | some (.tup []) => lim E (.ops l all :: k) (s.putO o.dst (.tup []))
 | _ => none
theorem guardL_u (o : Oper) (want : Bool) : guardL E o l all k s want (some (.tup [])) = lim E (.ops l all :: k) (s.putO o.dst (.tup [])) := rfl
def gOf (all : Array Oper) (t : Nat → V) (j : Nat) : Option V := ((all[j]?).bind (·.dst)).map t
theorem gOf_eq (os : List Oper) (t : Nat → V) (j : Nat) : gOf os.toArray t j = ((os[j]?).bind (·.dst)).map t := by simp [gOf]
theorem lim_op (o : Oper) (hg : o.guard = none) (h : ∀ f a b, o.op ≠ .call { callee := .value f, args := a, argTypes := b }) :
   lim E (.ops (o :: l) all :: k) s = opL E (.ops l all :: k) (evOp E.P (E.H s.f) o s) := by
 rw [lim_step]
 have : stepI E (.ops (o :: l) all :: k) s = (match evOp E.P (E.H s.f) o s with
       | some s' => .go (.ops l all :: k) s'
       | none => .fail) := by
   unfold stepI
   dsimp only
   rw [hg]
   dsimp only
   split
   · rename_i e; exact absurd e (h _ _ _)
   · rfl
 rw [this]
 cases evOp E.P (E.H s.f) o s <;> rfl
theorem q_guard (d : Option Tmp) (op : Op) (ty : TypeId) (pos : String) (aft : Array Edge) (j : Nat) (want : Bool) :
   lim E (.ops ({ dst := d, op := op, type := ty, pos := pos, after := aft, guard := some (j, want) } :: l) all :: k) s =
     guardL E { dst := d, op := op, type := ty, pos := pos, after := aft, guard := none } l all k s want (gOf all s.t j) := by
 rw [lim_step]
 have hrun : lim E (.ops ({ dst := d, op := op, type := ty, pos := pos, after := aft, guard := none } :: l) all :: k) s =
     Out.lim E (stepI E (.ops ({ dst := d, op := op, type := ty, pos := pos, after := aft, guard := none } :: l) all :: k) s) := lim_step ..
 have : stepI E (.ops ({ dst := d, op := op, type := ty, pos := pos, after := aft, guard := some (j, want) } :: l) all :: k) s =
     (match gOf all s.t j with
       | some (.bool b) => if b = want then stepI E (.ops ({ dst := d, op := op, type := ty, pos := pos, after := aft, guard := none } :: l) all :: k) s else .go (.ops l all :: k) (s.putO d (.tup []))
       | some (.tup []) => .go (.ops l all :: k) (s.putO d (.tup []))
       | _ => .fail) := rfl
 rw [this]
 unfold guardL
 split
 · split
   · rw [hrun]
   · rfl
 · rfl
 · rfl

def faddr (c : Nat) : V → Option V
 | .ptr lv u off => some (.ptr lv u (off + c))
 | .imp l => some (.imp (l.drop c))
 | _ => none
theorem faddr_p (c lv u off : Nat) : faddr c (.ptr lv u off) = some (.ptr lv u (off + c)) := rfl
theorem faddr_i (c : Nat) (l : List V) : faddr c (.imp l) = some (.imp (l.drop c)) := rfl
def fget (c n : Nat) (ag : Bool) : V → Option V
 | .agg l => if c + n ≤ l.length ∧ n ≠ 0 then some (pack ag ((l.drop c).take n)) else none
 | _ => none
theorem fget_a (c n : Nat) (ag : Bool) (l : List V) : fget c n ag (.agg l) = if c + n ≤ l.length ∧ n ≠ 0 then some (pack ag ((l.drop c).take n)) else none := rfl

def layOf (P : Program) (t : TypeId) : Option (List (TypeId × Nat × Nat)) := match P.underlying t with
 | some (.struct fs) => if fs.toList.all (fun f => szOf P f.type != 0) then some (fs.toList.map fun f => (f.type, f.offset, szOf P f.type)) else none
 | _ => none
def buildL (P : Program) (L : List (TypeId × Nat × Nat)) : St → List V → List (Nat × Operand) → Option (List V × St)
 | s, cs, [] => some (cs, s)
 | s, cs, (i, x) :: ps => match L[i]? with
   | some (ft, off, sz) => if (s.all P ft x).flat.length = sz ∧ off + (s.all P ft x).flat.length ≤ cs.length then (match s.all P ft x with
       | .tup _ | .undef => none
       | _ => buildL P L (s.drop x) (setL cs off (s.all P ft x).flat) ps) else none
   | none => none
def aggO : Option (List V × St) → Option (V × St)
 | some r => some (.agg r.1, r.2)
 | none => none
theorem aggO_s (l : List V) (s : St) : aggO (some (l, s)) = some (.agg l, s) := rfl
theorem aggO_n : aggO none = none := rfl
theorem buildF_L {P : Program} {fs : Array Field} : ∀ (ps : List (Nat × Operand)) (s : St) (cs : List V), buildF P fs s cs ps = buildL P (fs.toList.map fun f => (f.type, f.offset, szOf P f.type)) s cs ps := by
 intro ps
 induction ps with
 | nil => intro s cs; rfl
 | cons p ps ih =>
   intro s cs
   obtain ⟨i, x⟩ := p
   unfold buildF buildL
   rw [List.getElem?_map, Array.getElem?_toList]
   cases fs[i]? with
   | none => rfl
   | some f =>
     dsimp only [Option.map_some]
     split
     · split
       · rename_i h; rw [h]
       · rename_i h; rw [h]
       · rename_i h1 h2
         rw [ih]
         split
         · rename_i h; exact absurd h (h1 _)
         · rename_i h; exact absurd h h2
         · rfl
     · rfl
theorem build_lay {P : Program} {H : Hint} {d : Nat} {ty t : TypeId} {ps : Array (Nat × Operand)} {s : St} {L : List (TypeId × Nat × Nat)} {z : List V} (h : layOf P t = some L) (hz : zero P t = some z) : evV P H d ty (.build t ps) s = aggO (buildL P L s z ps.toList) := by
 unfold layOf at h
 unfold evV
 dsimp only
 split at h
 · rename_i fs hu
   rw [hu, hz]
   dsimp only
   split at h
   · rename_i hc
     obtain rfl := Option.some.inj h
     rw [if_pos hc, buildF_L]
     cases buildL P (fs.toList.map fun f => (f.type, f.offset, szOf P f.type)) s z ps.toList <;> rfl
   · cases h
 · cases h

section ops
variable {d : Nat} {ty : TypeId} {pos : String} {aft : Array Edge}
noncomputable def putL (E : Env) (d : Nat) (k : List It) : Option (V × St) → Option (V × List (Nat → Option Ob))
 | some (v, s) => lim E k (s.put d v)
 | none => none
theorem putL_some (v : V) : putL E d k (some (v, s)) = lim E k (s.put d v) := rfl
theorem putL_ite {p : Prop} [Decidable p] (x y : Option (V × St)) : putL E d k (if p then x else y) = if p then putL E d k x else putL E d k y := by split <;> rfl
theorem putL_none : putL E d k none = none := rfl
theorem lim_put (op : Op) (h : ∀ f a b, op ≠ .call { callee := .value f, args := a, argTypes := b }) :
   lim E (.ops ({ dst := some d, op := op, type := ty, pos := pos, after := aft, guard := none } :: l) all :: k) s = if d < s.n then putL E d (.ops l all :: k) (evV E.P (E.H s.f) d ty op s) else none := by
 rw [lim_op _ rfl h]
 show opL E _ (if d < s.n then (evV E.P (E.H s.f) d ty op s).map fun r => r.2.put d r.1 else none) = _
 split
 · cases evV E.P (E.H s.f) d ty op s <;> rfl
 · rfl
noncomputable def bindL (E : Env) (k : List It) (s : St) (plain : Bool × Bool × Bool) (d : Option Nat) : Option (V × List (Nat → Option Ob)) → Option (V × List (Nat → Option Ob))
 | some r => lim E k (backS s plain d r.1 r.2)
 | none => none
theorem bindL_some (plain : Bool × Bool × Bool) (d : Option Nat) (v : V) (o : List (Nat → Option Ob)) : bindL E k s plain d (some (v, o)) = lim E k (backS s plain d v o) := rfl
theorem backS_plain (u : Bool) (d : Nat) (v : V) (o : List (Nat → Option Ob)) : backS s (true, u, false) (some d) v o = s.put d (setl u v) := rfl
theorem backS_brw (u : Bool) (d : Nat) (v : V) (o : List (Nat → Option Ob)) : backS s (true, u, true) (some d) v o = s.put d (if v.free && v.flatOk then v else .undef) := rfl
theorem backS_deep (u : Bool) (d : Nat) (v : V) (b : Nat → Option Ob) (o : List (Nat → Option Ob)) : backS s (false, u, false) (some d) v (b :: o) = { s.put d (setl u v) with b := b, o := o } := rfl
theorem setl_f (v : V) : setl false v = v := rfl
theorem setl_t (v : V) : setl true v = v.settle := rfl
noncomputable def orcL (E : Env) (g : Nat) (vs : List V) (k : List It) (s : St) (d : Option Nat) : Option V → Option (V × List (Nat → Option Ob))
 | some v => lim E k (s.putO d v)
 | none => bindL E k s (true, setF E g d s, false) d (run E g vs [])
theorem orcL_none (g : Nat) (vs : List V) (d : Option Nat) : orcL E g vs k s d none = bindL E k s (true, setF E g d s, false) d (run E g vs []) := rfl
theorem orcL_some (g : Nat) (vs : List V) (d : Option Nat) (v : V) : orcL E g vs k s d (some v) = lim E k (s.putO d v) := rfl
noncomputable def callF (E : Env) (d : Option Nat) (k : List It) : V → Option (List V × St) → Option (V × List (Nat → Option Ob))
 | .fn g caps, some (vs, s1) => if ((vs ++ caps).any isRef || !caps.isEmpty) = true then bindL E k s1 (false, setF E g d s1, false) d (run E g (vs ++ caps) (s1.b :: s1.o)) else orcL E g (vs ++ caps) k s1 d (E.orc g (vs ++ caps))
 | _, _ => none
theorem callF_some (g : Nat) (caps vs : List V) (d : Option Nat) : callF E d k (.fn g caps) (some (vs, s)) = if ((vs ++ caps).any isRef || !caps.isEmpty) = true then bindL E k s (false, setF E g d s, false) d (run E g (vs ++ caps) (s.b :: s.o)) else orcL E g (vs ++ caps) k s d (E.orc g (vs ++ caps)) := rfl
noncomputable def callBF (E : Env) (d : Option Nat) (k : List It) (s : St) : V → Option (List V) → Option (V × List (Nat → Option Ob))
 | .fn g [], some vs => bindL E k s (true, false, true) d (run E g vs [])
 | _, _ => none
theorem callBF_some (g : Nat) (vs : List V) (d : Option Nat) : callBF E d k s (.fn g []) (some vs) = bindL E k s (true, false, true) d (run E g vs []) := rfl
noncomputable def callLF (E : Env) (d : Option Nat) (k : List It) : V → Option (List V × St) → Option (V × List (Nat → Option Ob))
 | .fn g [], some (vs, s1) => bindL E k s1 (false, setF E g d s1, false) d (run E g vs (s1.b :: s1.o))
 | _, _ => none
theorem callLF_some (g : Nat) (vs : List V) (d : Option Nat) : callLF E d k (.fn g []) (some (vs, s)) = bindL E k s (false, setF E g d s, false) d (run E g vs (s.b :: s.o)) := rfl
theorem q_call {f : Operand} {args : Array Operand} {tys : Array TypeId} :
   lim E (.ops ({ dst := some d, op := .call { callee := .value f, args := args, argTypes := tys }, type := ty, pos := pos, after := aft, guard := none } :: l) all :: k) s =
     if memN d (E.H s.f).brw = true then (if args.size = tys.size ∧ d < s.n then callBF E (some d) (.ops l all :: k) s (s.see E.P 0 f) (s.peeks E.P (tys.toList.zip args.toList)) else none)
     else if memN d (E.H s.f).lend = true then (if args.size = tys.size ∧ d < s.n then callLF E (some d) (.ops l all :: k) (s.see E.P 0 f) (s.argRs E.P (tys.toList.zip args.toList)) else none)
     else if args.size = tys.size ∧ d < s.n then callF E (some d) (.ops l all :: k) (s.see E.P 0 f) (s.args E.P (tys.toList.zip args.toList)) else none := by
 rw [lim_step]
 show Out.lim E (callOp E (some d) f args tys (.ops l all :: k) s) = _
 unfold callOp
 have hd : (args.size = tys.size ∧ Option.all (fun d => decide (d < s.n)) (some d) = true) ↔ (args.size = tys.size ∧ d < s.n) := by simp
 by_cases hb : memN d (E.H s.f).brw = true
 · rw [if_pos hb, if_pos (show inOpt (some d) (E.H s.f).brw = true from hb)]
   unfold callB
   by_cases hc : args.size = tys.size ∧ d < s.n
   · rw [if_pos hc]
     cases s.see E.P 0 f with
     | fn g caps =>
       cases caps with
       | cons _ _ => cases s.peeks E.P (tys.toList.zip args.toList) <;> rfl
       | nil =>
         cases s.peeks E.P (tys.toList.zip args.toList) with
         | none => rfl
         | some vs =>
           dsimp only
           rw [if_pos (hd.2 hc)]
           show Option.bind _ _ = bindL E _ s (true, false, true) (some d) (run E g vs [])
           cases run E g vs [] <;> rfl
     | _ => rfl
   · rw [if_neg hc]
     cases s.see E.P 0 f with
     | fn g caps =>
       cases caps with
       | cons _ _ => cases s.peeks E.P (tys.toList.zip args.toList) <;> rfl
       | nil =>
         cases s.peeks E.P (tys.toList.zip args.toList) with
         | none => rfl
         | some vs => dsimp only; rw [if_neg fun h => hc (hd.1 h)]; rfl
     | _ => rfl
 rw [if_neg hb, if_neg (show ¬ inOpt (some d) (E.H s.f).brw = true from hb)]
 by_cases hl : memN d (E.H s.f).lend = true
 · rw [if_pos hl, if_pos (show inOpt (some d) (E.H s.f).lend = true from hl)]
   unfold callL
   by_cases hc : args.size = tys.size ∧ d < s.n
   · rw [if_pos hc]
     cases s.see E.P 0 f with
     | fn g caps =>
       cases caps with
       | cons _ _ => cases s.argRs E.P (tys.toList.zip args.toList) <;> rfl
       | nil =>
         cases s.argRs E.P (tys.toList.zip args.toList) with
         | none => rfl
         | some r =>
           obtain ⟨vs, s1⟩ := r
           dsimp only
           rw [if_pos (hd.2 hc)]
           show Option.bind _ _ = bindL E _ s1 (false, setF E g (some d) s1, false) (some d) (run E g vs (s1.b :: s1.o))
           cases run E g vs (s1.b :: s1.o) <;> rfl
     | _ => rfl
   · rw [if_neg hc]
     cases s.see E.P 0 f with
     | fn g caps =>
       cases caps with
       | cons _ _ => cases s.argRs E.P (tys.toList.zip args.toList) <;> rfl
       | nil =>
         cases s.argRs E.P (tys.toList.zip args.toList) with
         | none => rfl
         | some r => obtain ⟨vs, s1⟩ := r; dsimp only; rw [if_neg fun h => hc (hd.1 h)]; rfl
     | _ => rfl
 rw [if_neg hl, if_neg (show ¬ inOpt (some d) (E.H s.f).lend = true from hl)]
 unfold callN
 by_cases hc : args.size = tys.size ∧ d < s.n
 · rw [if_pos hc]
   cases s.see E.P 0 f with
   | fn g caps =>
     cases s.args E.P (tys.toList.zip args.toList) with
     | none => rfl
     | some r =>
       obtain ⟨vs, s1⟩ := r
       dsimp only
       rw [if_pos (hd.2 hc)]
       show _ = if ((vs ++ caps).any isRef || !caps.isEmpty) = true then bindL E _ s1 (false, setF E g (some d) s1, false) (some d) (run E g (vs ++ caps) (s1.b :: s1.o)) else orcL E g (vs ++ caps) _ s1 (some d) (E.orc g (vs ++ caps))
       split
       · show Option.bind _ _ = _
         cases run E g (vs ++ caps) (s1.b :: s1.o) <;> rfl
       · cases E.orc g (vs ++ caps) with
         | some v => rfl
         | none =>
           show Option.bind _ _ = bindL E _ s1 (true, setF E g (some d) s1, false) (some d) (run E g (vs ++ caps) [])
           cases run E g (vs ++ caps) [] <;> rfl
   | _ => rfl
 · rw [if_neg hc]
   cases s.see E.P 0 f with
   | fn g caps =>
     cases s.args E.P (tys.toList.zip args.toList) with
     | none => rfl
     | some r => obtain ⟨vs, s1⟩ := r; dsimp only; rw [if_neg fun h => hc (hd.1 h)]; rfl
   | _ => rfl
theorem p_move (x : Operand) : lim E (.ops ({ dst := some d, op := .move x, type := ty, pos := pos, after := aft, guard := none } :: l) all :: k) s = if d < s.n then putL E d (.ops l all :: k) (evV E.P (E.H s.f) d ty (.move x) s) else none := lim_put _ (by intro _ _ _ h; cases h)
theorem p_assign (x : Operand) : lim E (.ops ({ dst := some d, op := .assign x, type := ty, pos := pos, after := aft, guard := none } :: l) all :: k) s = if d < s.n then putL E d (.ops l all :: k) (evV E.P (E.H s.f) d ty (.assign x) s) else none := lim_put _ (by intro _ _ _ h; cases h)
theorem p_pick (x y z : Operand) : lim E (.ops ({ dst := some d, op := .pick x y z, type := ty, pos := pos, after := aft, guard := none } :: l) all :: k) s = if d < s.n then putL E d (.ops l all :: k) (evV E.P (E.H s.f) d ty (.pick x y z) s) else none := lim_put _ (by intro _ _ _ h; cases h)
theorem p_alloc (t : TypeId) : lim E (.ops ({ dst := some d, op := .alloc t, type := ty, pos := pos, after := aft, guard := none } :: l) all :: k) s = if d < s.n then putL E d (.ops l all :: k) (evV E.P (E.H s.f) d ty (.alloc t) s) else none := lim_put _ (by intro _ _ _ h; cases h)
theorem p_box (t : TypeId) (x : Operand) : lim E (.ops ({ dst := some d, op := .box t x, type := ty, pos := pos, after := aft, guard := none } :: l) all :: k) s = if d < s.n then putL E d (.ops l all :: k) (evV E.P (E.H s.f) d ty (.box t x) s) else none := lim_put _ (by intro _ _ _ h; cases h)
theorem p_build (t : TypeId) (ps : Array (Nat × Operand)) : lim E (.ops ({ dst := some d, op := .build t ps, type := ty, pos := pos, after := aft, guard := none } :: l) all :: k) s = if d < s.n then putL E d (.ops l all :: k) (evV E.P (E.H s.f) d ty (.build t ps) s) else none := lim_put _ (by intro _ _ _ h; cases h)
theorem p_buildSlice (t : TypeId) (n : Nat) (ps : Array (Nat × Operand)) : lim E (.ops ({ dst := some d, op := .buildSlice t n ps, type := ty, pos := pos, after := aft, guard := none } :: l) all :: k) s = if d < s.n then putL E d (.ops l all :: k) (evV E.P (E.H s.f) d ty (.buildSlice t n ps) s) else none := lim_put _ (by intro _ _ _ h; cases h)
theorem p_load (t : TypeId) (x : Operand) : lim E (.ops ({ dst := some d, op := .load t x, type := ty, pos := pos, after := aft, guard := none } :: l) all :: k) s = if d < s.n then putL E d (.ops l all :: k) (evV E.P (E.H s.f) d ty (.load t x) s) else none := lim_put _ (by intro _ _ _ h; cases h)
theorem p_nilCheck (x : Operand) : lim E (.ops ({ dst := some d, op := .nilCheck x, type := ty, pos := pos, after := aft, guard := none } :: l) all :: k) s = if d < s.n then putL E d (.ops l all :: k) (evV E.P (E.H s.f) d ty (.nilCheck x) s) else none := lim_put _ (by intro _ _ _ h; cases h)
theorem p_binOp (o : BinOp) (t u : TypeId) (x y : Operand) : lim E (.ops ({ dst := some d, op := .binOp o t x y u, type := ty, pos := pos, after := aft, guard := none } :: l) all :: k) s = if d < s.n then putL E d (.ops l all :: k) (evV E.P (E.H s.f) d ty (.binOp o t x y u) s) else none := lim_put _ (by intro _ _ _ h; cases h)
theorem p_unOp (o : UnOp) (t : TypeId) (x : Operand) : lim E (.ops ({ dst := some d, op := .unOp o t x, type := ty, pos := pos, after := aft, guard := none } :: l) all :: k) s = if d < s.n then putL E d (.ops l all :: k) (evV E.P (E.H s.f) d ty (.unOp o t x) s) else none := lim_put _ (by intro _ _ _ h; cases h)
theorem p_convert (t u : TypeId) (x : Operand) : lim E (.ops ({ dst := some d, op := .convert t u x, type := ty, pos := pos, after := aft, guard := none } :: l) all :: k) s = if d < s.n then putL E d (.ops l all :: k) (evV E.P (E.H s.f) d ty (.convert t u x) s) else none := lim_put _ (by intro _ _ _ h; cases h)
theorem p_makeFunc (f : Fn) (a c : Array Operand) : lim E (.ops ({ dst := some d, op := .makeFunc f a c, type := ty, pos := pos, after := aft, guard := none } :: l) all :: k) s = if d < s.n then putL E d (.ops l all :: k) (evV E.P (E.H s.f) d ty (.makeFunc f a c) s) else none := lim_put _ (by intro _ _ _ h; cases h)
theorem p_makeMap (t : TypeId) (r : Option Operand) : lim E (.ops ({ dst := some d, op := .makeMap t r, type := ty, pos := pos, after := aft, guard := none } :: l) all :: k) s = if d < s.n then putL E d (.ops l all :: k) (evV E.P (E.H s.f) d ty (.makeMap t r) s) else none := lim_put _ (by intro _ _ _ h; cases h)
theorem p_makeSlice (t : TypeId) (x y : Operand) : lim E (.ops ({ dst := some d, op := .makeSlice t x y, type := ty, pos := pos, after := aft, guard := none } :: l) all :: k) s = if d < s.n then putL E d (.ops l all :: k) (evV E.P (E.H s.f) d ty (.makeSlice t x y) s) else none := lim_put _ (by intro _ _ _ h; cases h)
theorem p_slice (t : TypeId) (x : Operand) (a c m : Option Operand) : lim E (.ops ({ dst := some d, op := .slice t x a c m, type := ty, pos := pos, after := aft, guard := none } :: l) all :: k) s = if d < s.n then putL E d (.ops l all :: k) (evV E.P (E.H s.f) d ty (.slice t x a c m) s) else none := lim_put _ (by intro _ _ _ h; cases h)
theorem p_fieldAddr (t : TypeId) (x : Operand) (f : Nat) : lim E (.ops ({ dst := some d, op := .fieldAddr t x f, type := ty, pos := pos, after := aft, guard := none } :: l) all :: k) s = if d < s.n then putL E d (.ops l all :: k) (evV E.P (E.H s.f) d ty (.fieldAddr t x f) s) else none := lim_put _ (by intro _ _ _ h; cases h)
theorem p_field (t : TypeId) (x : Operand) (f : Nat) : lim E (.ops ({ dst := some d, op := .field t x f, type := ty, pos := pos, after := aft, guard := none } :: l) all :: k) s = if d < s.n then putL E d (.ops l all :: k) (evV E.P (E.H s.f) d ty (.field t x f) s) else none := lim_put _ (by intro _ _ _ h; cases h)
theorem p_indexAddr (t : TypeId) (x i : Operand) : lim E (.ops ({ dst := some d, op := .indexAddr t x i, type := ty, pos := pos, after := aft, guard := none } :: l) all :: k) s = if d < s.n then putL E d (.ops l all :: k) (evV E.P (E.H s.f) d ty (.indexAddr t x i) s) else none := lim_put _ (by intro _ _ _ h; cases h)
theorem p_index (t : TypeId) (x i : Operand) : lim E (.ops ({ dst := some d, op := .index t x i, type := ty, pos := pos, after := aft, guard := none } :: l) all :: k) s = if d < s.n then putL E d (.ops l all :: k) (evV E.P (E.H s.f) d ty (.index t x i) s) else none := lim_put _ (by intro _ _ _ h; cases h)
theorem p_lookup (t : TypeId) (x i : Operand) (o : Bool) : lim E (.ops ({ dst := some d, op := .lookup t x i o, type := ty, pos := pos, after := aft, guard := none } :: l) all :: k) s = if d < s.n then putL E d (.ops l all :: k) (evV E.P (E.H s.f) d ty (.lookup t x i o) s) else none := lim_put _ (by intro _ _ _ h; cases h)
theorem p_extract (x : Operand) (i : Nat) : lim E (.ops ({ dst := some d, op := .extract x i, type := ty, pos := pos, after := aft, guard := none } :: l) all :: k) s = if d < s.n then putL E d (.ops l all :: k) (evV E.P (E.H s.f) d ty (.extract x i) s) else none := lim_put _ (by intro _ _ _ h; cases h)
theorem p_builtin (b : Builtin) (a : Array Operand) (c : Array TypeId) : lim E (.ops ({ dst := some d, op := .call { callee := .builtin b, args := a, argTypes := c }, type := ty, pos := pos, after := aft, guard := none } :: l) all :: k) s = if d < s.n then putL E d (.ops l all :: k) (evV E.P (E.H s.f) d ty (.call { callee := .builtin b, args := a, argTypes := c }) s) else none := lim_put _ (by intro _ _ _ h; cases h)
theorem p_none (op : Op) (h : ∀ f a b, op ≠ .call { callee := .value f, args := a, argTypes := b }) : lim E (.ops ({ dst := none, op := op, type := ty, pos := pos, after := aft, guard := none } :: l) all :: k) s = opL E (.ops l all :: k) (evU E.P (E.H s.f) op s) := lim_op _ rfl h
theorem run_eq (E : Env) (f : Nat) (args : List V) (outer : List (Nat → Option Ob)) {fn : Func} {c : Code} (hf : E.P.funcs[f]? = some fn) (hn : (fn.name == "runtime.NumGoroutine") = false) (hb : fn.body = some c) (hl : args.length ≤ fn.ntmps) : run E f args outer = lim E [.code c] { t := argT 0 args, b := n0, o := outer, r := fn.results, f := f, n := fn.ntmps } := by
 unfold run startS
 rw [hf]
 simp only [hl, hn, hb, and_self, if_true, Option.map_some]
theorem iter_rule {σ : Type} {E : Env} {c : Code} {k : List It} (S : σ → St) (R : σ → Option (V × List (Nat → Option Ob))) (μ : σ → Nat) (h : ∀ x, (∀ y, μ y < μ x → iter E c k (S y) = R y) → lim E (.code c :: .lp c :: k) (S x) = R x) (x : σ) : iter E c k (S x) = R x := by
 suffices ∀ n x, μ x ≤ n → iter E c k (S x) = R x from this _ x (Nat.le_refl _)
 intro n
 induction n with
 | zero => intro x hx; exact h x fun y hy => absurd hy (by omega)
 | succ n ih => intro x hx; exact h x fun y hy => ih y (by omega)
theorem map_ite {α β : Type} {p : Prop} [Decidable p] (f : α → β) (x y : Option α) : Option.map f (if p then x else y) = if p then Option.map f x else Option.map f y := by split <;> rfl
theorem nat_nonneg (n : Nat) : (0 ≤ (n : Int)) = True := by simp
end ops
attribute [go_sem] map_ite nat_nonneg  q_skip q_seq q_region q_block q_blk q_loop q_ret q_nil q_ops0 q_exit q_cond q_lp q_guard q_call putL_some putL_ite putL_none evV.eq_def endL_some exitL_some lpL_some opL_some opL_none opL_ite guardL_u callF_some callBF_some callLF_some backS_brw orcL_none orcL_some bindL_some backS_plain backS_deep setl_f setl_t setF V.settle V.setC V.outC isNilc nilCmp isTmpIn isTmpF uMake uMakes uMakeF uMakesF uStoreM resC resCs resW appendU out_code out_ops out_lp out_blk memN St.put St.putO St.see St.all St.drop upd_get e0_get n0_get rd cst V.view V.viewC argT St.args St.arg St.tree St.frz tree pureC isRef binV arith lenV isStr isSl vIndex optInt unV canon keepT keepB canonV.eq_def hintAt endV resV gOf_eq List.find? List.zip List.zipWith List.map List.any List.all List.append_nil List.cons_append List.nil_append List.isEmpty_nil Bool.or_false Bool.not_true Bool.false_eq_true if_false if_true Nat.reduceEqDiff Nat.reduceLT ne_eq reduceCtorEq not_false_eq_true implies_true beq_self_eq_true Option.map_some Option.map_none Option.getD_some and_self true_and and_true Option.bind_some Nat.reduceBEq Nat.reduceLeDiff List.length_cons List.length_nil Nat.zero_add Nat.reduceAdd List.size_toArray decide_eq_true_eq p_move p_assign p_pick p_alloc p_box p_build p_buildSlice p_load p_nilCheck p_binOp p_unOp p_convert p_makeFunc p_makeMap p_makeSlice p_slice p_fieldAddr p_field p_indexAddr p_index p_lookup p_extract p_builtin p_none Option.map_none mapOpt
attribute [go_sem] thaw resUs resHs resQs handAll V.hand V.handC cellU appendO St.peeks St.peek St.argRs St.argR St.argR0 tmpI cellD
end Go.Ev
