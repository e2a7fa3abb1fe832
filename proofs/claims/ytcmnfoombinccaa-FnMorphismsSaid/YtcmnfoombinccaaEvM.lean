/- A region whose order is drawn: all orders come to the same. A region in its order; a function's end. -/
import Derived.Test.YtcmnfoombinccaaEvL
import Derived.Test.YtcmnfoombinccaaEvK
set_option linter.unusedVariables false
set_option linter.unusedSimpArgs false
namespace Go.Ev
open Go
set_option linter.unusedVariables false
set_option linter.unusedSimpArgs false
variable {E : Env} {s : St} {ev : Run} {all : Array Oper}

theorem looks_op {o : Oper} {i : Nat} (h : .tmp i ∈ o.op.operands.toList) : memN i (looks all o) = true := by
  unfold looks
  rw [memN_app, memN_tmpsOf h]; rfl
theorem looks_gd {o : Oper} {j d : Nat} {want : Bool} (hg : o.guard = some (j, want)) (hd : (all[j]?).bind (·.dst) = some d) : memN d (looks all o) = true := by
  unfold looks
  rw [memN_app, hg]
  dsimp only
  rw [hd]
  simp [memN]
def AgrL (all : Array Oper) (o : Oper) (s s2 : St) : Prop := ∀ x, memN x (looks all o) = true → s2.t x = s.t x
theorem AgrL.op {o : Oper} {s s2 : St} (h : AgrL all o s s2) : AgrO o s s2 := fun i hi => h i (looks_op hi)
theorem AgrL.guard {o : Oper} {s s2 : St} (h : AgrL all o s s2) : guardS all o s2 = guardS all o s := guard_alt (fun j want d hg hd => h d (looks_gd hg hd)) rfl
theorem wt_self (s s2 : St) (hb : s2.b = s.b) (ho : s2.o = s.o) (hr : s2.r = s.r) (hf : s2.f = s.f) (hn : s2.n = s.n) : wt s s2.t = s2 := by
  cases s; cases s2; subst hb ho hr hf hn; rfl

/-- a step that turns tmps alone -/
structure QStep (E : Env) (ev : Run) (all : Array Oper) (i : Nat) (o : Oper) (s : St) (D C : List Nat) (v : V) (dn : List (Nat × V)) : Prop where
  sub : ∀ x, memN x D = true ∨ memN x C = true → memN x (chg (E.H s.f) o) = true
  kind : dn = [] ∨ (dn = [(i, v)] ∧ isL (E.H s.f) o = true)
  val : dn = [] ∨ lval E ev o s = some v
  again : ∀ s2 done2, s2.n = s.n → s2.f = s.f → AgrL all o s s2 → (dn = [] ∨ lval E ev o s2 = some v) → dstep E ev all i s2 done2 = some (wt s2 (setT s2.t D C o.dst v), dn ++ done2)
theorem putO_setT (d : Option Nat) (v : V) : s.putO d v = wt s (setT s.t [] [] d v) := by
  cases d with
  | none => show s = _; unfold wt setT; simp [memN]
  | some d =>
    show s.put d v = _
    unfold St.put wt upd setT
    congr 1
    funext x
    by_cases e : x = d
    · subst e; simp
    · have : ¬ d = x := fun h => e h.symm
      simp [e, this, memN]
theorem dstep_inv {i : Nat} {done d1 : List (Nat × V)} {s1 : St} (h : dstep E ev all i s done = some (s1, d1)) : ∃ o, all[i]? = some o ∧
    ((∃ D C v dn, s1 = wt s (setT s.t D C o.dst v) ∧ d1 = dn ++ done ∧ QStep E ev all i o s D C v dn) ∨
     (guardS all o s = some true ∧ isX E.P (E.H s.f) o = false ∧ isL (E.H s.f) o = false ∧ stepOV E ev o s = some s1 ∧ still E ev all i s1 done = true ∧ d1 = done)) := by
  unfold dstep at h
  cases ho : all[i]? with
  | none => rw [ho] at h; cases h
  | some o =>
    rw [ho] at h
    dsimp only at h
    refine ⟨o, rfl, ?_⟩
    cases hg : guardS all o s with
    | none => rw [hg] at h; cases h
    | some g =>
      rw [hg] at h
      cases g with
      | false =>
        dsimp only at h
        obtain ⟨rfl, rfl⟩ := Prod.mk.inj (Option.some.inj h)
        refine .inl ⟨[], [], .tup [], [], putO_setT _ _, rfl, ⟨fun x hx => by simp [memN] at hx, .inl rfl, .inl rfl, fun s2 done2 hn hf ha _ => ?_⟩⟩
        unfold dstep
        rw [ho]
        dsimp only
        rw [ha.guard, hg]
        dsimp only
        rw [putO_setT]
        try rfl
      | true =>
        dsimp only at h
        by_cases hx : isX E.P (E.H s.f) o = true
        · rw [if_pos hx] at h
          by_cases hd : (dynX E.P o s && inDst s o) = true
          · rw [if_pos hd] at h
            obtain ⟨v, hv, he⟩ := Option.map_eq_some_iff.1 h
            obtain ⟨rfl, rfl⟩ := Prod.mk.inj he
            refine .inl ⟨drops (E.H s.f) o, cuts (E.H s.f) o, v, [], rfl, rfl, ⟨fun x hx => by unfold chg; rw [memN_app, memN_app]; rcases hx with hx | hx <;> rw [hx] <;> simp, .inl rfl, .inl rfl, fun s2 done2 hn hf ha _ => ?_⟩⟩
            simp only [Bool.and_eq_true] at hd
            unfold dstep
            rw [ho]
            dsimp only
            rw [ha.guard, hg]
            dsimp only
            rw [hf, if_pos hx]
            have hd2 : (dynX E.P o s2 && inDst s2 o) = true := by
              rw [dynX_alt ha.op, hd.1]
              unfold inDst at hd ⊢
              rw [hn, hd.2]
              rfl
            rw [if_pos hd2, xval_alt hx hd.1 ha.op hn hf, hv]
            try rfl
          · rw [if_neg hd] at h; cases h
        · rw [if_neg hx] at h
          by_cases hl : isL (E.H s.f) o = true
          · rw [if_pos hl] at h
            by_cases hd : inDst s o = true
            · rw [if_pos hd] at h
              obtain ⟨v, hv, he⟩ := Option.map_eq_some_iff.1 h
              obtain ⟨rfl, rfl⟩ := Prod.mk.inj he
              refine .inl ⟨drops (E.H s.f) o, cuts (E.H s.f) o, v, [(i, v)], rfl, rfl, ⟨fun x hx => by unfold chg; rw [memN_app, memN_app]; rcases hx with hx | hx <;> rw [hx] <;> simp, .inr ⟨rfl, hl⟩, .inr hv, fun s2 done2 hn hf ha hlv => ?_⟩⟩
              unfold dstep
              rw [ho]
              dsimp only
              rw [ha.guard, hg]
              dsimp only
              rw [hf, if_neg hx, if_pos hl]
              have hd2 : inDst s2 o = true := by
                unfold inDst at hd ⊢
                rw [hn, hd]
              have hlv' : lval E ev o s2 = some v := by
                rcases hlv with h | h
                · cases h
                · exact h
              rw [if_pos hd2, hlv']
              try rfl
            · rw [if_neg hd] at h; cases h
          · rw [if_neg hl] at h
            split at h
            · rename_i s2 h1
              split at h
              · rename_i hst
                obtain ⟨rfl, rfl⟩ := Prod.mk.inj (Option.some.inj h)
                exact .inr ⟨rfl, by simpa using hx, by simpa using hl, h1, hst, rfl⟩
              · cases h
            · cases h
theorem dstep_W {i : Nat} {done : List (Nat × V)} {s1 : St} {o : Oper} (ho : all[i]? = some o) (hg : guardS all o s = some true) (hx : isX E.P (E.H s.f) o = false) (hl : isL (E.H s.f) o = false) (hst : stepOV E ev o s = some s1) (hs : still E ev all i s1 done = true) : dstep E ev all i s done = some (s1, done) := by
  unfold dstep
  rw [ho]
  dsimp only
  rw [hg]
  simp [hx, hl, hst, hs]

theorem still_iff {i : Nat} : ∀ {l : List (Nat × V)}, still E ev all i s l = true ↔ ∀ k v, (k, v) ∈ l → prec all all.size k i = true ∨ ∃ o, all[k]? = some o ∧ lval E ev o s = some v := by
  intro l
  induction l with
  | nil => simp [still]
  | cons x l ih =>
    obtain ⟨k, v⟩ := x
    unfold still
    rw [Bool.and_eq_true, ih]
    constructor
    · rintro ⟨h1, h2⟩ k' v' hm
      rcases List.mem_cons.1 hm with e | hm
      · obtain ⟨rfl, rfl⟩ := Prod.mk.inj e
        rw [Bool.or_eq_true] at h1
        rcases h1 with h1 | h1
        · exact .inl h1
        · right
          split at h1
          · rename_i o ho
            refine ⟨o, ho, ?_⟩
            split at h1
            · assumption
            · cases h1
          · cases h1
      · exact h2 k' v' hm
    · intro h
      refine ⟨?_, fun k' v' hm => h k' v' (List.mem_cons_of_mem _ hm)⟩
      rw [Bool.or_eq_true]
      rcases h k v List.mem_cons_self with h1 | ⟨o, ho, h1⟩
      · exact .inl h1
      · right; rw [ho]; simp [h1]
theorem drun_perm : ∀ (c : List Nat) {s : St} {d d' : List (Nat × V)}, (∀ x, x ∈ d ↔ x ∈ d') → drun E ev all c s d = drun E ev all c s d' := by
  intro c
  induction c with
  | nil => intro s d d' _; rfl
  | cons i c ih =>
    intro s d d' h
    have hst : ∀ s1, still E ev all i s1 d = still E ev all i s1 d' := by
      intro s1
      rw [Bool.eq_iff_iff, still_iff, still_iff]
      exact ⟨fun hh k v hm => hh k v ((h _).2 hm), fun hh k v hm => hh k v ((h _).1 hm)⟩
    show (dstep E ev all i s d).bind _ = (dstep E ev all i s d').bind _
    unfold dstep
    cases all[i]? with
    | none => rfl
    | some o =>
      dsimp only
      cases guardS all o s with
      | none => rfl
      | some g =>
        cases g with
        | false => exact ih h
        | true =>
          dsimp only
          split
          · split
            · cases xval E ev o s with
              | none => rfl
              | some v => exact ih h
            · rfl
          · split
            · split
              · cases lval E ev o s with
                | none => rfl
                | some v => exact ih fun x => by simp [h x]
              · rfl
            · cases stepOV E ev o s with
              | none => rfl
              | some s1 =>
                dsimp only
                rw [hst]
                split
                · exact ih h
                · rfl

theorem apart_not {l m : List Nat} (h : apartL l m = true) {x : Nat} (hx : memN x l = true) : memN x m = false := by
  unfold apartL at h
  have := List.all_eq_true.1 h x (memN_iff.1 hx)
  simpa using this
theorem apart_not' {l m : List Nat} (h : apartL l m = true) {x : Nat} (hx : memN x m = true) : memN x l = false := by
  cases e : memN x l with
  | false => rfl
  | true => rw [apart_not h e] at hx; cases hx
theorem setT_out {t : Nat → V} {D C : List Nat} {o : Oper} {v : V} {H : Hint} (hD : ∀ x, memN x D = true ∨ memN x C = true → memN x (chg H o) = true) {x : Nat} (hx : memN x (chg H o) = false) : setT t D C o.dst v x = t x := by
  unfold setT
  have h1 : o.dst ≠ some x := by
    intro e
    unfold chg at hx
    rw [memN_app, e] at hx
    simp [memN] at hx
  have h2 : memN x D = false := by
    cases e : memN x D with
    | false => rfl
    | true => rw [hD x (.inl e)] at hx; cases hx
  have h3 : memN x C = false := by
    cases e : memN x C with
    | false => rfl
    | true => rw [hD x (.inr e)] at hx; cases hx
  rw [if_neg h1, h2, h3]; rfl
theorem setT_congr {t t' : Nat → V} {D C : List Nat} {d : Option Nat} {v : V} {x : Nat} (h : t x = t' x) : setT t D C d v x = setT t' D C d v x := by
  unfold setT; rw [h]

/-- what stands fast of what was read -/
def Held (E : Env) (H : Hint) (all : Array Oper) (done : List (Nat × V)) (c : List Nat) : Prop := ∀ k v, (k, v) ∈ done → ∃ o, all[k]? = some o ∧ isL H o = true ∧ ∀ b ∈ c, ∀ ob, all[b]? = some ob → apartL (chg H ob) (looks all o) = true
theorem commOk_inv {H : Hint} {a i : Nat} (h : commOk E.P H all a i = true) : ∃ x y, all[a]? = some x ∧ all[i]? = some y ∧ ((isX E.P H x = true ∧ (isX E.P H y = true ∨ isL H y = true ∨ isW H y = true)) ∨ (isL H x = true ∧ (isX E.P H y = true ∨ isL H y = true ∨ isW H y = true)) ∨ (isW H x = true ∧ isX E.P H y = true)) ∧
    apartL (chg H x) (looks all y ++ chg H y) = true ∧ apartL (chg H y) (looks all x ++ chg H x) = true := by
  unfold commOk at h
  split at h
  · rename_i x y hx hy
    refine ⟨x, y, hx, hy, ?_⟩
    simp only [Bool.and_eq_true, Bool.or_eq_true] at h
    obtain ⟨⟨h1, h2⟩, h3⟩ := h
    refine ⟨?_, h2, h3⟩
    rcases h1 with (⟨h1, h4⟩ | ⟨h1, h4⟩) | ⟨h1, h4⟩
    · exact .inl ⟨h1, by rcases h4 with (h4 | h4) | h4 <;> simp [h4]⟩
    · exact .inr (.inl ⟨h1, by rcases h4 with (h4 | h4) | h4 <;> simp [h4]⟩)
    · exact .inr (.inr ⟨h1, h4⟩)
  · cases h
theorem isXL {H : Hint} {o : Oper} {P : Program} : (isX P H o = true → isL H o = false ∧ isW H o = false) ∧ (isL H o = true → isW H o = false ∧ isX P H o = false) := by
  obtain ⟨dst, op, ty, pos, af, gd⟩ := o
  cases dst with
  | none => simp [isX, isL]
  | some d =>
    cases op <;> simp [isX, isL, isW]
    rename_i c
    obtain ⟨cal, args, tys⟩ := c
    cases cal <;> simp
    cases memN d H.deep <;> cases memN d H.ro <;> cases memN d H.brw <;> cases memN d H.lend <;> simp

theorem stepOV_fn {o : Oper} {s1 : St} (h : stepOV E ev o s = some s1) : s1.f = s.f ∧ s1.n = s.n := by
  unfold stepOV at h
  split at h
  · rename_i f args tys _
    unfold callOp at h
    split at h
    · unfold callB at h
      split at h
      · split at h
        · unfold evCallV at h
          dsimp only at h
          split at h
          · cases h
          · split at h
            · cases h
            · obtain rfl := Option.some.inj h
              unfold backS
              exact ⟨(Nx.putO _ _ _).f, (Nx.putO _ _ _).n⟩
        · cases h
      · cases h
    split at h
    · unfold callL at h
      split at h
      · rename_i ha
        have nx := Nx.argRs _ ha
        split at h
        · unfold evCallV at h
          dsimp only at h
          split at h
          · cases h
          · split at h
            · cases h
            · obtain rfl := Option.some.inj h
              unfold backS
              exact ⟨(Nx.putO _ _ _).f.trans nx.f, (Nx.putO _ _ _).n.trans nx.n⟩
        · cases h
      · cases h
    unfold callN at h
    split at h
    · rename_i ha
      have nx := Nx.args _ ha
      split at h
      · split at h
        · unfold evCallV at h
          dsimp only at h
          split at h
          · cases h
          · split at h
            · cases h
            · obtain rfl := Option.some.inj h
              unfold backS
              exact ⟨(Nx.putO _ _ _).f.trans nx.f, (Nx.putO _ _ _).n.trans nx.n⟩
        · split at h
          · obtain rfl := Option.some.inj h
            exact ⟨(Nx.putO _ _ _).f.trans nx.f, (Nx.putO _ _ _).n.trans nx.n⟩
          · unfold evCallV at h
            dsimp only at h
            split at h
            · cases h
            · split at h
              · cases h
              · obtain rfl := Option.some.inj h
                unfold backS
                exact ⟨(Nx.putO _ _ _).f.trans nx.f, (Nx.putO _ _ _).n.trans nx.n⟩
      · cases h
    · cases h
  · unfold evOp at h
    split at h
    · split at h
      · obtain ⟨r, hr, rfl⟩ := Option.map_eq_some_iff.1 h
        have nx := Nx.evV hr
        exact ⟨nx.f, nx.n⟩
      · cases h
    · have nx := Nx.evU h
      exact ⟨nx.f, nx.n⟩
theorem sib_inv {H : Hint} {a i : Nat} (h : sibX H all a i = true) : ∃ d d' u k k' ty pos af ty' pos' af', all[a]? = some ⟨some d, .extract (.tmp u) k, ty, pos, af, none⟩ ∧ all[i]? = some ⟨some d', .extract (.tmp u) k', ty', pos', af', none⟩ ∧ memN d H.own = true ∧ memN d' H.own = false ∧ d ≠ d' ∧ d ≠ u ∧ d' ≠ u := by
  unfold sibX at h
  split at h
  · rename_i d u k ty pos af d' u' k' ty' pos' af' h1 h2
    simp only [Bool.and_eq_true, beq_iff_eq, bne_iff_ne, Bool.not_eq_true'] at h
    obtain ⟨⟨⟨⟨⟨rfl, h4⟩, h5⟩, h6⟩, h7⟩, h8⟩ := h
    exact ⟨d, d', u, k, k', ty, pos, af, ty', pos', af', h1, h2, h4, h5, h6, h7, h8⟩
  · cases h
theorem dstep_ext {i : Nat} {done : List (Nat × V)} {d u k : Nat} {ty : TypeId} {pos : String} {af : Array Edge} (h : all[i]? = some ⟨some d, .extract (.tmp u) k, ty, pos, af, none⟩) :
    dstep E ev all i s done = if d < s.n then (match s.t u with
      | .tup l => (l[k]?).map (extV (E.H s.f) d)
      | _ => none).map fun v => (s.setX (E.H s.f) ⟨some d, .extract (.tmp u) k, ty, pos, af, none⟩ v, done) else none := by
  unfold dstep
  rw [h]
  have e1 : guardS all ⟨some d, .extract (.tmp u) k, ty, pos, af, none⟩ s = some true := rfl
  have e2 : isX E.P (E.H s.f) ⟨some d, .extract (.tmp u) k, ty, pos, af, none⟩ = true := rfl
  dsimp only
  rw [e1]
  dsimp only
  rw [if_pos e2]
  by_cases hd : d < s.n
  · rw [if_pos hd, if_pos (show (dynX E.P ⟨some d, .extract (.tmp u) k, ty, pos, af, none⟩ s && inDst s ⟨some d, .extract (.tmp u) k, ty, pos, af, none⟩) = true from by simp [dynX, inDst, hd])]
    rfl
  · rw [if_neg hd, if_neg (by simp [dynX, inDst, hd])]
theorem swap_sib {a i : Nat} {done d1 d2 : List (Nat × V)} {s1 s2 : St} (hc : sibX (E.H s.f) all a i = true)
    (h1 : dstep E ev all a s done = some (s1, d1)) (h2 : dstep E ev all i s1 d1 = some (s2, d2)) : ∃ s3 d3 d4, dstep E ev all i s done = some (s3, d3) ∧ dstep E ev all a s3 d3 = some (s2, d4) ∧ ∀ x, x ∈ d4 ↔ x ∈ d2 := by
  obtain ⟨d, d', u, k, k', ty, pos, af, ty', pos', af', hx, hy, o1, o2, n1, n2, n3⟩ := sib_inv hc
  rw [dstep_ext hx] at h1
  split at h1
  rotate_left
  · cases h1
  rename_i hd
  obtain ⟨v, hv, he⟩ := Option.map_eq_some_iff.1 h1
  obtain ⟨rfl, rfl⟩ := Prod.mk.inj he
  split at hv
  rotate_left
  · cases hv
  rename_i l hu
  obtain ⟨v0, hv0, rfl⟩ := Option.map_eq_some_iff.1 hv
  have c1 : cuts (E.H s.f) ⟨some d, .extract (.tmp u) k, ty, pos, af, none⟩ = [u] := by
    show (if memN d (E.H s.f).own then [u] else []) = _
    rw [if_pos o1]
  have c2 : cuts (E.H s.f) ⟨some d', .extract (.tmp u) k', ty', pos', af', none⟩ = [] := by
    show (if memN d' (E.H s.f).own then [u] else []) = _
    rw [o2]; rfl
  have t1 : (s.setX (E.H s.f) ⟨some d, .extract (.tmp u) k, ty, pos, af, none⟩ (extV (E.H s.f) d v0)).t u = .tup (l.map V.view) := by
    unfold St.setX
    rw [c1]
    show setT s.t [] [u] (some d) (extV (E.H s.f) d v0) u = _
    unfold setT
    rw [if_neg (fun e => n2 (Option.some.inj e)), if_neg (by simp [memN]), if_pos (by simp [memN]), hu]
    rfl
  rw [dstep_ext hy] at h2
  split at h2
  rotate_left
  · cases h2
  rename_i hd'
  obtain ⟨w, hw, he2⟩ := Option.map_eq_some_iff.1 h2
  obtain ⟨rfl, rfl⟩ := Prod.mk.inj he2
  rw [t1] at hw
  dsimp only at hw
  rw [List.getElem?_map, Option.map_map] at hw
  obtain ⟨w0, hw0, rfl⟩ := Option.map_eq_some_iff.1 hw
  have hd2 : d' < s.n := hd'
  have hww : (extV (E.H s.f) d' ∘ V.view) w0 = w0.view := by
    show extV (E.H s.f) d' w0.view = w0.view
    unfold extV
    rw [o2]
    exact V.view_view _
  refine ⟨s.setX (E.H s.f) ⟨some d', .extract (.tmp u) k', ty', pos', af', none⟩ w0.view, done, done, ?_, ?_, fun _ => Iff.rfl⟩
  · rw [dstep_ext hy, if_pos hd2, hu]
    dsimp only
    rw [hw0]
    have ew : extV (E.H s.f) d' w0 = w0.view := by unfold extV; rw [o2]; rfl
    show some (s.setX _ _ (extV (E.H s.f) d' w0), done) = _
    rw [ew]
  · have t2 : (s.setX (E.H s.f) ⟨some d', .extract (.tmp u) k', ty', pos', af', none⟩ w0.view).t u = .tup l := by
      unfold St.setX
      rw [c2]
      show setT s.t [] [] (some d') w0.view u = _
      unfold setT
      rw [if_neg (fun e => n3 (Option.some.inj e)), if_neg (by simp [memN]), if_neg (by simp [memN]), hu]
    rw [dstep_ext hx, if_pos (show d < (s.setX (E.H s.f) ⟨some d', .extract (.tmp u) k', ty', pos', af', none⟩ w0.view).n from hd), t2]
    dsimp only
    rw [hv0]
    show some ((s.setX (E.H s.f) ⟨some d', .extract (.tmp u) k', ty', pos', af', none⟩ w0.view).setX (E.H s.f) ⟨some d, .extract (.tmp u) k, ty, pos, af, none⟩ (extV (E.H s.f) d v0), done) = some (((s.setX (E.H s.f) ⟨some d, .extract (.tmp u) k, ty, pos, af, none⟩ (extV (E.H s.f) d v0)).setX (E.H s.f) ⟨some d', .extract (.tmp u) k', ty', pos', af', none⟩ ((extV (E.H s.f) d' ∘ V.view) w0)), done)
    rw [hww]
    generalize extV (E.H s.f) d v0 = v0
    refine congrArg (fun x => some (x, done)) ?_
    unfold St.setX
    dsimp only
    rw [c1, c2]
    refine congrArg (fun x => ({ s with t := x } : St)) ?_
    show setT (setT s.t [] [] (some d') w0.view) [] [u] (some d) v0 = setT (setT s.t [] [u] (some d) v0) [] [] (some d') w0.view
    funext z
    unfold setT
    by_cases z1 : z = d
    · subst z1
      simp [memN, n1, Ne.symm n1]
    · by_cases z2 : z = d'
      · subst z2
        simp [memN, n1, n3, Ne.symm n3, Ne.symm z1, z1]
      · simp [memN, Ne.symm z1, Ne.symm z2, z1, z2]
theorem sibM_inv {H : Hint} {a i : Nat} (h : sibM H all a i = true) : ∃ d d' u ty pos af ty' pos' af', all[a]? = some ⟨some d, .move (.tmp u), ty, pos, af, none⟩ ∧ all[i]? = some ⟨some d', .move (.tmp u), ty', pos', af', none⟩ ∧ memN d H.take = true ∧ (memN d H.frz || memN d H.make || memN d H.own) = false ∧ memN d' H.take = false ∧ (memN d' H.frz || memN d' H.make || memN d' H.own) = false ∧ d ≠ d' ∧ d ≠ u ∧ d' ≠ u := by
  unfold sibM at h
  split at h
  · rename_i d u ty pos af d' u' ty' pos' af' h1 h2
    rw [Bool.and_eq_true, Bool.and_eq_true, Bool.and_eq_true, Bool.and_eq_true, Bool.and_eq_true, Bool.and_eq_true, Bool.and_eq_true] at h
    obtain ⟨⟨⟨⟨⟨⟨⟨h3, h4⟩, h5⟩, h6⟩, h7⟩, h8⟩, h9⟩, h10⟩ := h
    obtain rfl : u = u' := by simpa using h3
    exact ⟨d, d', u, ty, pos, af, ty', pos', af', h1, h2, h4, by simpa using h5, by simpa using h6, by simpa using h7, by simpa using h8, by simpa using h9, by simpa using h10⟩
  · cases h
theorem dstep_mv {i : Nat} {done : List (Nat × V)} {d u : Nat} {ty : TypeId} {pos : String} {af : Array Edge} (h : all[i]? = some ⟨some d, .move (.tmp u), ty, pos, af, none⟩) (hq : (memN d (E.H s.f).frz || memN d (E.H s.f).make || memN d (E.H s.f).own) = false) :
    dstep E ev all i s done = if d < s.n then some (s.setX (E.H s.f) ⟨some d, .move (.tmp u), ty, pos, af, none⟩ (if memN d (E.H s.f).take then s.t u else (s.t u).view), done) else none := by
  unfold dstep
  rw [h]
  have e1 : guardS all ⟨some d, .move (.tmp u), ty, pos, af, none⟩ s = some true := rfl
  have e2 : isX E.P (E.H s.f) ⟨some d, .move (.tmp u), ty, pos, af, none⟩ = true := by
    show (!(memN d (E.H s.f).frz || memN d (E.H s.f).make || memN d (E.H s.f).own)) = true
    rw [hq]; rfl
  dsimp only
  rw [e1]
  dsimp only
  rw [if_pos e2]
  have e3 : xval E ev ⟨some d, .move (.tmp u), ty, pos, af, none⟩ s = some (if memN d (E.H s.f).take then s.t u else (s.t u).view) := by
    show (evV E.P (E.H s.f) d ty (.move (.tmp u)) s).map (·.1) = _
    have := mv_red (P := E.P) (s := s) (ty := ty) hq (.tmp u)
    have e4 : evV E.P (E.H s.f) d ty (.move (.tmp u)) s = (if memN d (E.H s.f).take then some (s.t u, s.drop (.tmp u)) else some ((s.t u).view, s)) := this
    rw [e4]
    split <;> rfl
  by_cases hd : d < s.n
  · rw [if_pos hd, if_pos (show (dynX E.P ⟨some d, .move (.tmp u), ty, pos, af, none⟩ s && inDst s ⟨some d, .move (.tmp u), ty, pos, af, none⟩) = true from by simp [dynX, inDst, hd]), e3]
    rfl
  · rw [if_neg hd, if_neg (by simp [dynX, inDst, hd])]
theorem swap_sibM {a i : Nat} {done d1 d2 : List (Nat × V)} {s1 s2 : St} (hc : sibM (E.H s.f) all a i = true)
    (h1 : dstep E ev all a s done = some (s1, d1)) (h2 : dstep E ev all i s1 d1 = some (s2, d2)) : ∃ s3 d3 d4, dstep E ev all i s done = some (s3, d3) ∧ dstep E ev all a s3 d3 = some (s2, d4) ∧ ∀ x, x ∈ d4 ↔ x ∈ d2 := by
  obtain ⟨d, d', u, ty, pos, af, ty', pos', af', hx, hy, o1, o2, o3, o4, n1, n2, n3⟩ := sibM_inv hc
  rw [dstep_mv hx o2, o1] at h1
  split at h1
  rotate_left
  · cases h1
  rename_i hd
  obtain ⟨rfl, rfl⟩ := Prod.mk.inj (Option.some.inj h1)
  have c1 : ∀ d ty pos af, cuts (E.H s.f) ⟨some d, .move (.tmp u), ty, pos, af, none⟩ = [] := fun _ _ _ _ => rfl
  have r1 : drops (E.H s.f) ⟨some d, .move (.tmp u), ty, pos, af, none⟩ = [u] := by
    show (if memN d (E.H s.f).take then tmpsOf [.tmp u] else []) = _
    rw [o1]; rfl
  have r2 : drops (E.H s.f) ⟨some d', .move (.tmp u), ty', pos', af', none⟩ = [] := by
    show (if memN d' (E.H s.f).take then tmpsOf [.tmp u] else []) = _
    rw [o3]; rfl
  rw [if_pos rfl] at h2
  rw [dstep_mv (s := s.setX (E.H s.f) ⟨some d, .move (.tmp u), ty, pos, af, none⟩ (s.t u)) hy o4] at h2
  split at h2
  rotate_left
  · cases h2
  rename_i hd'
  obtain ⟨rfl, rfl⟩ := Prod.mk.inj (Option.some.inj h2)
  have t1 : (s.setX (E.H s.f) ⟨some d, .move (.tmp u), ty, pos, af, none⟩ (s.t u)).t u = (s.t u).view := by
    unfold St.setX
    rw [r1]
    show setT s.t [u] _ (some d) (s.t u) u = _
    unfold setT
    rw [if_neg (fun e => n2 (Option.some.inj e)), if_pos (by simp [memN])]
  have t2 : (s.setX (E.H s.f) ⟨some d', .move (.tmp u), ty', pos', af', none⟩ (s.t u).view).t u = s.t u := by
    unfold St.setX
    rw [r2, c1]
    show setT s.t [] [] (some d') (s.t u).view u = _
    unfold setT
    rw [if_neg (fun e => n3 (Option.some.inj e)), if_neg (by simp [memN]), if_neg (by simp [memN])]
  refine ⟨s.setX (E.H s.f) ⟨some d', .move (.tmp u), ty', pos', af', none⟩ (s.t u).view, done, done, ?_, ?_, fun _ => Iff.rfl⟩
  · rw [dstep_mv hy o4, if_pos (show d' < s.n from hd'), o3]
    rfl
  · rw [dstep_mv (s := s.setX (E.H s.f) ⟨some d', .move (.tmp u), ty', pos', af', none⟩ (s.t u).view) hx o2, if_pos (show d < (s.setX (E.H s.f) ⟨some d', .move (.tmp u), ty', pos', af', none⟩ (s.t u).view).n from hd)]
    show some ((s.setX (E.H s.f) ⟨some d', .move (.tmp u), ty', pos', af', none⟩ (s.t u).view).setX (E.H s.f) ⟨some d, .move (.tmp u), ty, pos, af, none⟩ (if memN d (E.H s.f).take = true then (s.setX (E.H s.f) ⟨some d', .move (.tmp u), ty', pos', af', none⟩ (s.t u).view).t u else _), done) = some ((s.setX (E.H s.f) ⟨some d, .move (.tmp u), ty, pos, af, none⟩ (s.t u)).setX (E.H s.f) ⟨some d', .move (.tmp u), ty', pos', af', none⟩ (if memN d' (E.H s.f).take = true then _ else ((s.setX (E.H s.f) ⟨some d, .move (.tmp u), ty, pos, af, none⟩ (s.t u)).t u).view), done)
    rw [if_pos o1, if_neg (by rw [o3]; simp), t1, t2, V.view_view]
    refine congrArg (fun x => some (x, done)) ?_
    unfold St.setX
    dsimp only
    rw [r1, r2, c1, c1]
    refine congrArg (fun x => ({ s with t := x } : St)) ?_
    show setT (setT s.t [] [] (some d') (s.t u).view) [u] [] (some d) (s.t u) = setT (setT s.t [u] [] (some d) (s.t u)) [] [] (some d') (s.t u).view
    funext z
    unfold setT
    by_cases z1 : z = d
    · subst z1
      simp [memN, n1, Ne.symm n1]
    · by_cases z2 : z = d'
      · subst z2
        simp [memN, n1, n3, Ne.symm n3, Ne.symm z1, z1]
      · simp [memN, Ne.symm z1, Ne.symm z2, z1, z2]
theorem swap {a i : Nat} {done d1 d2 : List (Nat × V)} {s1 s2 : St} (hc : (commOk E.P (E.H s.f) all a i || sibOk (E.H s.f) all a i) = true) (hself : selfOk (E.H s.f) all a = true) (hp : prec all all.size a i = false) (hd : Held E (E.H s.f) all done [a, i])
    (h1 : dstep E ev all a s done = some (s1, d1)) (h2 : dstep E ev all i s1 d1 = some (s2, d2)) : ∃ s3 d3 d4, dstep E ev all i s done = some (s3, d3) ∧ dstep E ev all a s3 d3 = some (s2, d4) ∧ ∀ x, x ∈ d4 ↔ x ∈ d2 := by
  rcases Bool.or_eq_true _ _ ▸ hc with hc | hc
  rotate_left
  · rcases Bool.or_eq_true _ _ ▸ hc with hc | hc
    · exact swap_sib hc h1 h2
    · exact swap_sibM hc h1 h2
  obtain ⟨x, y, hx, hy, hcls, hap1, hap2⟩ := commOk_inv hc
  have a1 : ∀ z, memN z (looks all y) = true → memN z (chg (E.H s.f) x) = false := fun z hz => apart_not' hap1 (by rw [memN_app, hz]; rfl)
  have a2 : ∀ z, memN z (chg (E.H s.f) y) = true → memN z (chg (E.H s.f) x) = false := fun z hz => apart_not' hap1 (by rw [memN_app, hz]; simp)
  have a3 : ∀ z, memN z (looks all x) = true → memN z (chg (E.H s.f) y) = false := fun z hz => apart_not' hap2 (by rw [memN_app, hz]; rfl)
  have a4 : ∀ z, memN z (chg (E.H s.f) x) = true → memN z (chg (E.H s.f) y) = false := fun z hz => apart_not' hap2 (by rw [memN_app, hz]; simp)
  obtain ⟨x', hx', hA⟩ := dstep_inv h1
  obtain rfl : x' = x := by rw [hx] at hx'; exact (Option.some.inj hx').symm
  obtain ⟨y', hy', hI⟩ := dstep_inv h2
  obtain rfl : y' = y := by rw [hy] at hy'; exact (Option.some.inj hy').symm
  have excl := fun o => isXL (H := E.H s.f) (o := o) (P := E.P)
  rcases hA with ⟨Da, Ca, va, dna, rfl, rfl, qa⟩ | ⟨ga, xa, la, sta, hstill, rfl⟩
  · have f1 : (wt s (setT s.t Da Ca x'.dst va)).f = s.f := rfl
    rcases hI with ⟨Di, Ci, vi, dni, rfl, rfl, qi⟩ | ⟨gi, xi, li, sti, hstill, rfl⟩
    · -- tmps alone, both
      have subi : ∀ z, memN z Di = true ∨ memN z Ci = true → memN z (chg (E.H s.f) y') = true := qi.sub
      have agri : AgrL all y' (wt s (setT s.t Da Ca x'.dst va)) s := fun z hz => (setT_out qa.sub (a1 z hz)).symm
      have k1 := qi.again s done rfl rfl agri (by
        rcases qi.kind with e | ⟨e, hl⟩
        · exact .inl e
        · right
          rcases qi.val with e' | hv
          · rw [e'] at e; cases e
          · have := lval_alt (E := E) (ev := ev) (o := y') (s := wt s (setT s.t Da Ca x'.dst va)) (t2 := s.t) hl agri.op
            exact this.trans hv)
      have agra : AgrL all x' s (wt s (setT s.t Di Ci y'.dst vi)) := fun z hz => setT_out subi (a3 z hz)
      have k2 := qa.again (wt s (setT s.t Di Ci y'.dst vi)) (dni ++ done) rfl rfl agra (by
        rcases qa.kind with e | ⟨e, hl⟩
        · exact .inl e
        · right
          rcases qa.val with e' | hv
          · rw [e'] at e; cases e
          · exact (lval_alt (E := E) (ev := ev) (o := x') (s := s) (t2 := setT s.t Di Ci y'.dst vi) hl agra.op).trans hv)
      refine ⟨_, _, _, k1, k2.trans ?_, fun z => (show z ∈ dna ++ (dni ++ done) ↔ z ∈ dni ++ (dna ++ done) from by simp only [List.mem_append]; exact ⟨fun h => by rcases h with h | h | h <;> simp [h], fun h => by rcases h with h | h | h <;> simp [h]⟩)⟩
      congr 2
      show wt s _ = wt s _
      congr 1
      funext z
      show setT (setT s.t Di Ci y'.dst vi) Da Ca x'.dst va z = setT (setT s.t Da Ca x'.dst va) Di Ci y'.dst vi z
      by_cases hz : memN z (chg (E.H s.f) x') = true
      · rw [setT_out (t := setT s.t Da Ca x'.dst va) subi (a4 z hz)]
        exact setT_congr (setT_out subi (a4 z hz))
      · have hz' : memN z (chg (E.H s.f) x') = false := by simpa using hz
        rw [setT_out (t := setT s.t Di Ci y'.dst vi) qa.sub hz']
        exact setT_congr (setT_out qa.sub hz').symm
    · -- the second turns objects
      have wi : isW (E.H s.f) y' = true := by
        have xi' : isX E.P (E.H s.f) y' = false := xi
        have li' : isL (E.H s.f) y' = false := li
        rcases hcls with ⟨_, h⟩ | ⟨_, h⟩ | ⟨_, h⟩
        · rcases h with h | h | h
          · rw [xi'] at h; cases h
          · rw [li'] at h; cases h
          · exact h
        · rcases h with h | h | h
          · rw [xi'] at h; cases h
          · rw [li'] at h; cases h
          · exact h
        · rw [xi'] at h; cases h
      have agri : AgrL all y' (wt s (setT s.t Da Ca x'.dst va)) s := fun z hz => (setT_out qa.sub (a1 z hz)).symm
      obtain ⟨m1, m2⟩ := stepW_alt (E := E) (ev := ev) (o := y') (s := wt s (setT s.t Da Ca x'.dst va)) (t2 := s.t) wi sti agri.op
      have m1' : stepOV E ev y' s = some (wt s2 fun z => if memN z (chg (E.H s.f) y') then s2.t z else s.t z) := m1
      have m2' : ∀ z, memN z (chg (E.H s.f) y') = false → s2.t z = setT s.t Da Ca x'.dst va z := m2
      have gi' : guardS all y' s = some true := by rw [← gi]; exact (AgrL.guard (s := wt s (setT s.t Da Ca x'.dst va)) (s2 := s) agri)
      have nx2 := stepOV_fn sti
      -- what the two worlds differ in
      have diff : ∀ z, memN z (chg (E.H s.f) x') = false → (if memN z (chg (E.H s.f) y') then s2.t z else s.t z) = s2.t z := by
        intro z hz
        split
        · rfl
        · rename_i h
          have h' : memN z (chg (E.H s.f) y') = false := by simpa using h
          rw [m2' z h', setT_out qa.sub hz]
      have fs2 : s2.f = s.f := nx2.1
      have lv2 : ∀ (o : Oper) (v : V), isL (E.H s.f) o = true → (∀ z, memN z (looks all o) = true → memN z (chg (E.H s.f) x') = false) → lval E ev o s2 = some v → lval E ev o (wt s2 fun z => if memN z (chg (E.H s.f) y') then s2.t z else s.t z) = some v := by
        intro o v hl hz hv
        have := lval_alt (E := E) (ev := ev) (o := o) (s := s2) (t2 := fun z => if memN z (chg (E.H s.f) y') then s2.t z else s.t z) (by rw [fs2]; exact hl) (fun i hi => diff i (hz i (looks_op hi)))
        exact this.trans hv
      have hst2 : still E ev all i (wt s2 fun z => if memN z (chg (E.H s.f) y') then s2.t z else s.t z) done = true := by
        rw [still_iff] at hstill ⊢
        intro k v hm
        rcases hstill k v (List.mem_append_right _ hm) with h | ⟨o, ho, hv⟩
        · exact .inl h
        · obtain ⟨o', ho', hl, hap⟩ := hd k v hm
          obtain rfl : o' = o := by rw [ho] at ho'; exact (Option.some.inj ho').symm
          exact .inr ⟨o', ho, lv2 o' v hl (fun z hz => apart_not' (hap a (by simp) x' hx) hz) hv⟩
      have k1 : dstep E ev all i s done = some (_, done) := dstep_W hy gi' xi li m1' hst2
      refine ⟨_, _, _, k1, (qa.again (wt s2 fun z => if memN z (chg (E.H s.f) y') then s2.t z else s.t z) done nx2.2 fs2 (fun z hz => ?_) ?_).trans ?_, fun z => Iff.rfl⟩
      · show (if memN z (chg (E.H s.f) y') then s2.t z else s.t z) = s.t z
        rw [if_neg (by rw [a3 z hz]; simp)]
      · rcases qa.kind with e | ⟨e, hl⟩
        · exact .inl e
        · right
          have hsf : apartL (chg (E.H s.f) x') (looks all x') = true := by
            unfold selfOk at hself
            rw [hx] at hself
            simpa [hl] using hself
          rw [still_iff] at hstill
          rcases hstill a va (by rw [e]; exact List.mem_append_left _ (List.mem_singleton.2 rfl)) with h | ⟨o, ho, hv⟩
          · rw [hp] at h; cases h
          · obtain rfl : o = x' := by rw [ho] at hx; exact Option.some.inj hx
            exact lv2 o va hl (fun z hz => apart_not' hsf hz) hv
      · congr 2
        show wt s2 _ = s2
        have : (setT (fun z => if memN z (chg (E.H s.f) y') then s2.t z else s.t z) Da Ca x'.dst va) = s2.t := by
          funext z
          by_cases hz : memN z (chg (E.H s.f) x') = true
          · have h4 := a4 z hz
            rw [m2' z h4]
            exact setT_congr (by rw [if_neg (by rw [h4]; simp)])
          · have hz' : memN z (chg (E.H s.f) x') = false := by simpa using hz
            rw [setT_out qa.sub hz']
            exact diff z hz'
        exact congrArg (wt s2) this
  · -- the first turns objects
    have wa : isW (E.H s.f) x' = true ∧ isX E.P (E.H s.f) y' = true := by
      rcases hcls with ⟨h, _⟩ | ⟨h, _⟩ | h
      · rw [xa] at h; cases h
      · rw [la] at h; cases h
      · exact h
    have fn1 := stepOV_fn sta
    have xi1 : isX E.P (E.H s1.f) y' = true := by rw [fn1.1]; exact wa.2
    rcases hI with ⟨Di, Ci, vi, dni, rfl, rfl, qi⟩ | ⟨gi, xi, li, sti, hst2, rfl⟩
    · have hdn : dni = [] := by
        rcases qi.kind with e | ⟨e, hl⟩
        · exact e
        · rw [((excl y').1 wa.2).1 |> fun h => (by rw [fn1.1]; exact h : isL (E.H s1.f) y' = false)] at hl; cases hl
      subst hdn
      have subi : ∀ z, memN z Di = true ∨ memN z Ci = true → memN z (chg (E.H s.f) y') = true := fun z hz => by have := qi.sub z hz; rw [fn1.1] at this; exact this
      obtain ⟨_, fr⟩ := stepW_alt (E := E) (ev := ev) (o := x') (s := s) (t2 := s.t) wa.1 sta (fun _ _ => rfl)
      have agri : AgrL all y' s1 s := fun z hz => (fr z (a1 z hz)).symm
      have k1 := qi.again s d1 fn1.2.symm fn1.1.symm agri (.inl rfl)
      have agra : AgrL all x' s (wt s (setT s.t Di Ci y'.dst vi)) := fun z hz => setT_out subi (a3 z hz)
      obtain ⟨m1, _⟩ := stepW_alt (E := E) (ev := ev) (o := x') (s := s) (t2 := setT s.t Di Ci y'.dst vi) wa.1 sta agra.op
      have hT : (fun z => if memN z (chg (E.H s.f) x') then s1.t z else setT s.t Di Ci y'.dst vi z) = setT s1.t Di Ci y'.dst vi := by
        funext z
        by_cases hz : memN z (chg (E.H s.f) x') = true
        · rw [if_pos hz, setT_out subi (a4 z hz)]
        · have hz' : memN z (chg (E.H s.f) x') = false := by simpa using hz
          rw [if_neg hz]
          exact setT_congr (fr z hz').symm
      rw [hT] at m1
      have hst3 : still E ev all a (wt s1 (setT s1.t Di Ci y'.dst vi)) d1 = true := by
        rw [still_iff] at hstill ⊢
        intro k v hm
        rcases hstill k v hm with h | ⟨o, ho, hv⟩
        · exact .inl h
        · obtain ⟨o', ho', hl, hap⟩ := hd k v hm
          obtain rfl : o' = o := by rw [ho] at ho'; exact (Option.some.inj ho').symm
          refine .inr ⟨o', ho, ?_⟩
          exact (lval_alt (E := E) (ev := ev) (o := o') (s := s1) (t2 := setT s1.t Di Ci y'.dst vi) (by rw [fn1.1]; exact hl) (fun j hj => setT_out subi (apart_not' (hap i (by simp) y' hy) (looks_op hj)))).trans hv
      have ga' : guardS all x' (wt s (setT s.t Di Ci y'.dst vi)) = some true := by rw [← ga]; exact agra.guard
      exact ⟨_, _, _, k1, dstep_W hx ga' xa la m1 hst3, fun z => Iff.rfl⟩
    · rw [xi1] at xi; cases xi

/-! ### all orders -/
def Fit (E : Env) (H : Hint) (all : Array Oper) (a i : Nat) : Prop := pairOk E.P H all a i = true
theorem Fit.held {H : Hint} {a i : Nat} (h : Fit E H all a i) {x y : Oper} (hx : all[a]? = some x) (hy : all[i]? = some y) (hl : isL H x = true) : apartL (chg H y) (looks all x) = true := by
  unfold Fit pairOk at h
  rw [hx, hy] at h
  simp only [Bool.and_eq_true, hl, Bool.not_true, Bool.false_or] at h
  exact h.2
theorem Held.step {i : Nat} {c : List Nat} {done d1 : List (Nat × V)} {s1 : St} (h : Held E (E.H s.f) all done c) (hs : dstep E ev all i s done = some (s1, d1)) (hnew : ∀ x, all[i]? = some x → isL (E.H s.f) x = true → ∀ b ∈ c, ∀ ob, all[b]? = some ob → apartL (chg (E.H s.f) ob) (looks all x) = true) : Held E (E.H s.f) all d1 c := by
  obtain ⟨o, ho, hA⟩ := dstep_inv hs
  rcases hA with ⟨D, C, v, dn, _, rfl, q⟩ | ⟨_, _, _, _, _, rfl⟩
  · rcases q.kind with rfl | ⟨rfl, hl⟩
    · exact h
    · intro k v' hm
      rcases List.mem_append.1 hm with hm | hm
      · obtain ⟨rfl, rfl⟩ := Prod.mk.inj (List.mem_singleton.1 hm)
        exact ⟨o, ho, hl, hnew o ho hl⟩
      · exact h k v' hm
  · exact h
theorem dstep_f {i : Nat} {done d1 : List (Nat × V)} {s1 : St} (hs : dstep E ev all i s done = some (s1, d1)) : s1.f = s.f := by
  obtain ⟨o, ho, hA⟩ := dstep_inv hs
  rcases hA with ⟨D, C, v, dn, rfl, rfl, q⟩ | ⟨_, _, _, h, _, rfl⟩
  · rfl
  · exact (stepOV_fn h).1
def FitH (H : Hint) (all : Array Oper) (a i : Nat) : Prop := ∀ x y, all[a]? = some x → all[i]? = some y → isL H x = true → apartL (chg H y) (looks all x) = true
theorem Fit.toH {H : Hint} {a i : Nat} (h : Fit E H all a i) : FitH H all a i := fun _ _ hx hy hl => h.held hx hy hl
theorem front {i : Nat} {post : List Nat} : ∀ (pre : List Nat) {s s' : St} {done : List (Nat × V)}, (∀ a ∈ pre, (commOk E.P (E.H s.f) all a i || sibOk (E.H s.f) all a i) = true ∧ selfOk (E.H s.f) all a = true ∧ prec all all.size a i = false) → (pre ++ [i]).Pairwise (FitH (E.H s.f) all) → Held E (E.H s.f) all done (pre ++ [i]) →
    drun E ev all (pre ++ i :: post) s done = some s' → drun E ev all (i :: (pre ++ post)) s done = some s' := by
  intro pre
  induction pre with
  | nil => intro s s' done _ _ _ h; exact h
  | cons a pre ih =>
    intro s s' done hc hp hh h
    obtain ⟨⟨s1, d1⟩, h1, h2⟩ := Option.bind_eq_some_iff.1 h
    have f1 := dstep_f h1
    have hp' := List.pairwise_cons.1 hp
    have hh1 : Held E (E.H s.f) all d1 (pre ++ [i]) := Held.step (fun k v hm => by
      obtain ⟨o, h3, h4, h5⟩ := hh k v hm
      exact ⟨o, h3, h4, fun b hb => h5 b (List.mem_cons_of_mem _ hb)⟩) h1 fun x hx hl b hb ob hob => hp'.1 b hb x ob hx hob hl
    have h3 := ih (s := s1) (by rw [f1]; exact fun b hb => hc b (List.mem_cons_of_mem _ hb)) (by rw [f1]; exact hp'.2) (by rw [f1]; exact hh1) h2
    obtain ⟨⟨s2, d2⟩, h4, h5⟩ := Option.bind_eq_some_iff.1 h3
    obtain ⟨c1, c2, c3⟩ := hc a List.mem_cons_self
    obtain ⟨s3, d3, d4, k1, k2, k3⟩ := swap c1 c2 c3 (fun k v hm => by
      obtain ⟨o, h6, h7, h8⟩ := hh k v hm
      exact ⟨o, h6, h7, fun b hb => h8 b (by
        rcases List.mem_cons.1 hb with rfl | hb
        · exact List.mem_cons_self
        · rw [List.mem_singleton.1 hb]; exact List.mem_append_right _ (List.mem_singleton.2 rfl))⟩) h1 h4
    refine Option.bind_eq_some_iff.2 ⟨(s3, d3), k1, ?_⟩
    refine Option.bind_eq_some_iff.2 ⟨(s2, d4), k2, ?_⟩
    dsimp only
    rw [drun_perm _ k3]
    exact h5

def Closed (all : Array Oper) (listed : Array Bool) : Prop := ∀ j o, listed.getD j false = true → all[j]? = some o → ∀ e ∈ edges o, listed.getD e false = true
theorem prec_listed {listed : Array Bool} (hcl : Closed all listed) {a : Nat} : ∀ (n i : Nat) (o : Oper), all[i]? = some o → (∀ e ∈ edges o, listed.getD e false = true) → prec all n a i = true → listed.getD a false = true := by
  intro n
  induction n with
  | zero => intro i o _ _ h; cases h
  | succ n ih =>
    intro i o ho he h
    unfold prec at h
    rw [ho] at h
    obtain ⟨e, hm, hx⟩ := List.any_eq_true.1 h
    have hle := he e hm
    rw [Bool.or_eq_true] at hx
    rcases hx with hx | hx
    · have : e = a := by simpa using hx
      rw [← this]; exact hle
    · cases n with
      | zero => cases hx
      | succ n =>
        have hx' := hx
        unfold prec at hx'
        split at hx'
        · rename_i o' ho'
          exact ih e o' ho' (hcl e o' hle ho') hx
        · cases hx'
theorem edges_mem {o : Oper} {e : Edge} (he : e ∈ o.after) (hb : Region.binds .any e = true) : e.on ∈ edges o := by
  unfold edges
  exact List.mem_map.2 ⟨e, List.mem_filter.2 ⟨Array.mem_toList_iff.2 he, hb⟩, rfl⟩
theorem edges_inv {o : Oper} {n : Nat} (h : n ∈ edges o) : ∃ e ∈ o.after, Region.binds .any e = true ∧ e.on = n := by
  unfold edges at h
  obtain ⟨e, he, rfl⟩ := List.mem_map.1 h
  obtain ⟨h1, h2⟩ := List.mem_filter.1 he
  exact ⟨e, Array.mem_toList_iff.1 h1, h2, rfl⟩
end Go.Ev
namespace Go.Ev
open Go
set_option linter.unusedVariables false
set_option linter.unusedSimpArgs false
variable {E : Env} {G : Gh} {s : St} {a : Act} {w : World}

theorem OwnS.tup_inv {p : Nat → Nat → Pl} {x : Value} (h : OwnS G w p (.tup []) x) : x = .tuple #[] := by
  obtain ⟨vs, hx, hl, _⟩ := h
  have : vs = #[] := by
    apply Array.eq_empty_of_size_eq_zero
    simpa using hl.symm
  rw [hx, this]
theorem OwnS.bool_inv {p : Nat → Nat → Pl} {b : Bool} {x : Value} (h : OwnS G w p (.bool b) x) : x = .bool b := by
  rw [ownS_C (fun l e => by cases e) (fun l e => by cases e)] at h
  exact Tr.bool_inv h
theorem Rel.skip (hr : Rel G s a w) (d : Option Nat) : ∃ G', Rel G' (s.putO d (.tup [])) (a.put d undef) w ∧ Fr s.lv G w G' w := by
  cases d with
  | none => exact ⟨G, hr, Fr.refl _ _ _⟩
  | some d =>
    by_cases hd : d < s.n
    · obtain ⟨G', h1, h2, _⟩ := hr.put (v := .tup []) (x := undef) ⟨#[], rfl, rfl, fun i hi => absurd hi (Nat.not_lt_zero _)⟩ d hd
      exact ⟨G', h1, h2⟩
    · have he : a.put (some d) undef = a := by
        show { a with tmps := a.tmps.setIfInBounds d undef } = a
        rw [Array.setIfInBounds_eq_of_size_le (by rw [hr.size]; omega)]
      rw [he]
      refine ⟨G, ⟨hr.size, hr.defers, fun t => ?_, fun l t ob ho => hr.obj l t ob ho, fun l t g hg => hr.dom l t g hg, hr.imm, hr.lim⟩, Fr.refl _ _ _⟩
      show OwnS G w (.tm s.lv t) (upd s.t d (.tup []) t) _
      unfold upd
      by_cases ht : t = d
      · rw [if_pos ht]
        have : a.tmps.getD t undef = undef := by
          simp only [Array.getD_eq_getD_getElem?]
          rw [Array.getElem?_eq_none (by rw [hr.size]; omega)]
          rfl
        rw [this]
        exact ⟨#[], rfl, rfl, fun i hi => absurd hi (Nat.not_lt_zero _)⟩
      · rw [if_neg ht]; exact hr.slot t

theorem wanted_of (hr : Rel G s a w) {all : Array Oper} {o : Oper} {j : Nat} {want : Bool} (hg : o.guard = some (j, want)) {v : V} (hv : ((all[j]?).bind (·.dst)).map s.t = some v) :
    (∀ b, v = .bool b → Region.wanted o (yielded all a.tmps) = (b == want)) ∧ (v = .tup [] → Region.wanted o (yielded all a.tmps) = false) := by
  obtain ⟨t, ht, rfl⟩ := Option.map_eq_some_iff.1 hv
  unfold Region.wanted yielded
  rw [hg]
  dsimp only
  rw [ht]
  have hs := hr.slot t
  refine ⟨fun b hb => ?_, fun hb => ?_⟩
  · rw [hb] at hs
    have h1 := hs.bool_inv
    have : a.tmps[t]? = some (.bool b) := by
      simp only [Array.getD_eq_getD_getElem?] at h1
      cases hx : a.tmps[t]? with
      | none => rw [hx] at h1; cases h1
      | some y => rw [hx] at h1; simp at h1; rw [h1]
    simp only [Option.bind_some, this]
    cases b <;> cases want <;> rfl
  · rw [hb] at hs
    have h1 := hs.tup_inv
    simp only [Option.bind_some]
    simp only [Array.getD_eq_getD_getElem?] at h1
    cases hx : a.tmps[t]? with
    | none => rfl
    | some y => rw [hx] at h1; simp at h1; rw [h1]; rfl

theorem stepG_ok {n : Nat} (hS : SoundN E n) (hO : OrcOk E) {all : Array Oper} {o : Oper} {s' : St} (h : stepG E n all o s = some s') (hr : Rel G s a w) (hlow : Low s) {K : Act → World → Prop} {Q : Exit → Act → World → Prop}
    (hK : ∀ a' w' G', Rel G' s' a' w' → Nx s s' → Fr s.lv G w G' w' → K a' w') : if Region.wanted o (yielded all a.tmps) then o.wp E.P a w K Q ∨ (o.asks E.P a w ∧ LetsOut Q) else K (a.put o.dst undef) w := by
  have go : ∀ {s'}, stepO E n o s = some s' → (∀ a' w' G', Rel G' s' a' w' → Nx s s' → Fr s.lv G w G' w' → K a' w') → o.wp E.P a w K Q := fun h hK => stepO_ok hS hO h hr hlow fun x w' G' h1 h2 h3 => hK _ w' G' h1 h2 h3
  have skip : s' = s.putO o.dst (.tup []) → K (a.put o.dst undef) w := by
    rintro rfl
    obtain ⟨G', h1, h2⟩ := hr.skip o.dst
    exact hK _ w G' h1 (.putO _ _ _) h2
  unfold stepG at h
  split at h
  · rename_i hg
    have : Region.wanted o (yielded all a.tmps) = true := by unfold Region.wanted; rw [hg]
    rw [if_pos this]
    exact .inl (go h hK)
  · rename_i j want hg
    split at h
    · rename_i b hb
      have := (wanted_of hr hg hb).1 b rfl
      by_cases e : b = want
      · rw [if_pos e] at h
        rw [if_pos (by rw [this, e]; simp)]
        exact .inl (go h hK)
      · rw [if_neg e] at h
        rw [if_neg (by rw [this]; simp [e])]
        exact skip (Option.some.inj h).symm
    · rename_i hb
      have := (wanted_of hr hg hb).2 rfl
      rw [if_neg (by rw [this]; simp)]
      exact skip (Option.some.inj h).symm
    · cases h
theorem region_ok {n : Nat} (hS : SoundN E n) (hO : OrcOk E) {all : Array Oper} {Q : Exit → Act → World → Prop} : ∀ (m k : Nat) {G : Gh} {s s' : St} {a : Act} {w : World}, k + m = all.size → stepsO E n all (all.toList.drop k) s = some s' → Rel G s a w → Low s →
    (∀ a' w' G', Rel G' s' a' w' → Nx s s' → Fr s.lv G w G' w' → Q .normal a' w') → wpOps E.P all Q (List.range' k m) a w := by
  intro m
  induction m with
  | zero =>
    intro k G s s' a w hk h hr hlow hQ
    rw [List.drop_eq_nil_of_le (by simp; omega)] at h
    obtain rfl := Option.some.inj h
    exact hQ a w G hr (.refl _) (Fr.refl _ _ _)
  | succ m ih =>
    intro k G s s' a w hk h hr hlow hQ
    have hlt : k < all.toList.length := by simp; omega
    rw [List.drop_eq_getElem_cons hlt] at h
    obtain ⟨s1, h1, h2⟩ := Option.bind_eq_some_iff.1 h
    rw [List.range'_succ]
    unfold wpOps
    have ho : all[k]? = some all.toList[k] := by
      rw [← Array.getElem?_toList, List.getElem?_eq_getElem hlt]
    rw [ho]
    dsimp only
    refine stepG_ok hS hO h1 hr hlow fun a1 w1 G1 r1 nx f1 => ?_
    refine ih (k + 1) (by omega) h2 r1 (nx.low hlow) fun a' w' G' r' nx' f' => hQ a' w' G' r' (nx.trans nx') (f1.trans (nx.lv ▸ f'))

theorem Its.head {c : Code} {its : List It} {k : List Item} (h : Its (.code c :: its) k) : ∃ k', k = .code c :: k' ∧ Its its k' := by
  cases h with
  | code _ h => exact ⟨_, rfl, h⟩
theorem leaves {b : Frame} {fn : Func} {G' : Gh} {v : V} {s1 : St} (hr : Rel G s a w) (hf : E.P.funcs[s.f]? = some fn) (hres : fn.results = s.r) (hv : endV E.P s = some (v, s1)) (hb : b.fn = s.f) (hk : b.kind = .normal) :
    ∃ x G', (∀ todo, (({ b.at a todo with mode := .returning } : Frame)).leaving E.P w (.returned x)) ∧ Done s.lv G w s1.o v x w G' := by
  obtain ⟨x, G', h1, h2⟩ := end_ok hr hres hv
  exact ⟨x, G', fun todo => ⟨rfl, hr.defers, hk, fn, by show E.P.funcs[b.fn]? = _; rw [hb]; exact hf, h1⟩, h2⟩
theorem Nx.resC {s s1 : St} {v v' : V} (hv : resC s v = some (v', s1)) : Nx s s1 := by
  unfold Ev.resC at hv
  split at hv
  · obtain ⟨x, hx, he⟩ := Option.map_eq_some_iff.1 hv
    obtain ⟨rfl, rfl⟩ := Prod.mk.inj he
    exact .frz _
  · split at hv
    · obtain ⟨_, rfl⟩ := Prod.mk.inj (Option.some.inj hv); exact .refl _
    · cases hv
theorem Nx.resCs : ∀ {l : List V} {s s1 : St} {l' : List V}, resCs s l = some (l', s1) → Nx s s1 := by
  intro l
  induction l with
  | nil => intro s s1 l' hv; obtain ⟨_, rfl⟩ := Prod.mk.inj (Option.some.inj hv); exact .refl _
  | cons c l ih =>
    intro s s1 l' hv
    unfold Ev.resCs at hv
    split at hv
    · rename_i h1
      split at hv
      · rename_i h2
        obtain ⟨_, rfl⟩ := Prod.mk.inj (Option.some.inj hv)
        exact (Nx.resC h1).trans (ih h2)
      · cases hv
    · cases hv
theorem Nx.resW {s s1 : St} {v v' : V} (hv : resW s v = some (v', s1)) : Nx s s1 := by
  unfold Ev.resW at hv
  split at hv
  · obtain ⟨⟨l', s2⟩, hr, he⟩ := Option.map_eq_some_iff.1 hv
    obtain ⟨_, rfl⟩ := Prod.mk.inj he
    exact .resCs hr
  · exact .resC hv
theorem endV_low {v : V} {s1 : St} (hv : endV E.P s = some (v, s1)) (h : Low s) : LowL s1.o := by
  have one : ∀ {r v s1}, resV E.P s r = some (v, s1) → Nx s s1 := by
    intro r v s1 hv
    unfold resV at hv
    split at hv
    · split at hv
      · split at hv
        · split at hv
          · split at hv
            · obtain ⟨_, rfl⟩ := Prod.mk.inj (Option.some.inj hv); exact .refl _
            · cases hv
          · cases hv
        · cases hv
      · exact Nx.resW hv
    · split at hv
      · rename_i hl
        split at hv
        · rename_i hw
          obtain rfl := Option.some.inj hv
          exact (Nx.load hl).trans (.resW hw)
        · split at hv
          · rename_i hl3
            obtain ⟨u4, _, he⟩ := Option.map_eq_some_iff.1 hv
            obtain ⟨_, rfl⟩ := Prod.mk.inj he
            exact Nx.load hl3
          · cases hv
      · cases hv
  have many : ∀ (rs : List ResultVar) {s s1 : St} {vs}, resTs E.P s rs = some (vs, s1) → Nx s s1 := by
    intro rs
    induction rs with
    | nil => intro s s1 vs h; obtain ⟨_, rfl⟩ := Prod.mk.inj (Option.some.inj h); exact .refl _
    | cons r rs ih =>
      intro s s1 vs h
      unfold resTs at h
      split at h
      · rename_i v s2 h1
        split at h
        · rename_i h2
          obtain ⟨_, rfl⟩ := Prod.mk.inj (Option.some.inj h)
          refine Nx.trans ?_ (ih h2)
          unfold resT at h1
          split at h1
          · exact .tree h1
          · split at h1
            · rename_i hl
              split at h1
              · obtain ⟨_, rfl⟩ := Prod.mk.inj (Option.some.inj h1); exact .load hl
              · cases h1
            · cases h1
        · cases h
      · cases h
  have us : ∀ (rs : List ResultVar) {s s1 : St} {vs}, resUs s rs = some (vs, s1) → Nx s s1 := by
    intro rs
    induction rs with
    | nil => intro s s1 vs h; obtain ⟨_, rfl⟩ := Prod.mk.inj (Option.some.inj h); exact .refl _
    | cons r rs ih =>
      intro s s1 vs h
      cases r with
      | cell c t => cases h
      | tmp t =>
        unfold resUs at h
        split at h
        · rename_i h1
          split at h
          · rename_i h2
            obtain ⟨_, rfl⟩ := Prod.mk.inj (Option.some.inj h)
            exact ((Nx.put _ _ _).trans (Nx.resW h1)).trans (ih h2)
          · cases h
        · cases h
  unfold endV at hv
  split at hv
  · exact ((one hv).low h).outer
  · obtain ⟨y, hy, he⟩ := Option.map_eq_some_iff.1 hv
    obtain ⟨rfl, rfl⟩ := Prod.mk.inj he
    unfold resQs at hy
    split at hy
    · rename_i h1
      obtain rfl := Option.some.inj hy
      exact ((many _ h1).low h).outer
    · unfold resHs at hy
      split at hy
      · split at hy
        · rename_i hl
          split at hy
          · rename_i hw
            split at hy
            · rename_i hu
              obtain rfl := Option.some.inj hy
              exact (((Nx.load hl).trans (.resW hw)).trans (us _ hu)).low h |>.outer
            · cases hy
          · cases hy
        · cases hy
      · exact ((us _ hy).low h).outer

end Go.Ev
