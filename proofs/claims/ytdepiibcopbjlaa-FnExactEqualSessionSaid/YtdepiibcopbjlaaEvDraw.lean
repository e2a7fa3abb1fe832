/- A region whose order is drawn: all orders come to the same. -/
import Derived.Test.YtdepiibcopbjlaaEvFoot4
namespace Go.Ev
open Go
set_option linter.unusedVariables false
set_option linter.unusedSimpArgs false
variable {E : Env} {s : St} {ev : Run} {all : Array Oper}

theorem looks_op {o : Oper} {i : Nat} (h : .tmp i ∈ o.op.operands.toList) : memN i (looks all o) = true := by
  unfold looks
  rw [memN_app, memN_tmpsOf h]; rfl
theorem looks_gd {o : Oper} {j d : Nat} {want : Bool} (hg : o.guard = some (j, want)) (hd : (all[j]?).bind (·.dst) = some d) : memN d (looks all o) = true := by
  unfold looks
  rw [memN_app, hg]
  dsimp only
  rw [hd]
  simp [memN]
def AgrL (all : Array Oper) (o : Oper) (s s2 : St) : Prop := ∀ x, memN x (looks all o) = true → s2.t x = s.t x
theorem AgrL.op {o : Oper} {s s2 : St} (h : AgrL all o s s2) : AgrO o s s2 := fun i hi => h i (looks_op hi)
theorem AgrL.guard {o : Oper} {s s2 : St} (h : AgrL all o s s2) : guardS all o s2 = guardS all o s := guard_alt (fun j want d hg hd => h d (looks_gd hg hd)) rfl
theorem wt_self (s s2 : St) (hb : s2.b = s.b) (ho : s2.o = s.o) (hr : s2.r = s.r) (hf : s2.f = s.f) (hn : s2.n = s.n) : wt s s2.t = s2 := by
  cases s; cases s2; subst hb ho hr hf hn; rfl

/-- a step that turns tmps alone -/
structure QStep (E : Env) (ev : Run) (all : Array Oper) (i : Nat) (o : Oper) (s : St) (D : List Nat) (v : V) (dn : List (Nat × V)) : Prop where
  sub : ∀ x, memN x D = true → memN x (chg (E.H s.f) o) = true
  kind : dn = [] ∨ (dn = [(i, v)] ∧ isL (E.H s.f) o = true)
  val : dn = [] ∨ lval E o s = some v
  again : ∀ s2 done2, s2.n = s.n → s2.f = s.f → AgrL all o s s2 → (dn = [] ∨ lval E o s2 = some v) → dstep E ev all i s2 done2 = some (wt s2 (setT s2.t D o.dst v), dn ++ done2)
theorem putO_setT (d : Option Nat) (v : V) : s.putO d v = wt s (setT s.t [] d v) := by
  cases d with
  | none => show s = _; unfold wt setT; simp [memN]
  | some d =>
    show s.put d v = _
    unfold St.put wt upd setT
    congr 1
    funext x
    by_cases e : x = d
    · subst e; simp
    · have : ¬ d = x := fun h => e h.symm
      simp [e, this, memN]
theorem dstep_inv {i : Nat} {done d1 : List (Nat × V)} {s1 : St} (h : dstep E ev all i s done = some (s1, d1)) : ∃ o, all[i]? = some o ∧
    ((∃ D v dn, s1 = wt s (setT s.t D o.dst v) ∧ d1 = dn ++ done ∧ QStep E ev all i o s D v dn) ∨
     (guardS all o s = some true ∧ isX E.P (E.H s.f) o = false ∧ isL (E.H s.f) o = false ∧ stepOV E ev o s = some s1 ∧ still E all i s1 done = true ∧ d1 = done)) := by
  unfold dstep at h
  cases ho : all[i]? with
  | none => rw [ho] at h; cases h
  | some o =>
    rw [ho] at h
    dsimp only at h
    refine ⟨o, rfl, ?_⟩
    cases hg : guardS all o s with
    | none => rw [hg] at h; cases h
    | some g =>
      rw [hg] at h
      cases g with
      | false =>
        dsimp only at h
        obtain ⟨rfl, rfl⟩ := Prod.mk.inj (Option.some.inj h)
        refine .inl ⟨[], .tup [], [], putO_setT _ _, rfl, ⟨fun x hx => by simp [memN] at hx, .inl rfl, .inl rfl, fun s2 done2 hn hf ha _ => ?_⟩⟩
        unfold dstep
        rw [ho]
        dsimp only
        rw [ha.guard, hg]
        dsimp only
        rw [putO_setT]
        try rfl
      | true =>
        dsimp only at h
        by_cases hx : isX E.P (E.H s.f) o = true
        · rw [if_pos hx] at h
          by_cases hd : (dynX E.P o s && inDst s o) = true
          · rw [if_pos hd] at h
            obtain ⟨v, hv, he⟩ := Option.map_eq_some_iff.1 h
            obtain ⟨rfl, rfl⟩ := Prod.mk.inj he
            refine .inl ⟨drops (E.H s.f) o, v, [], rfl, rfl, ⟨fun x hx => by unfold chg; rw [memN_app, hx]; simp, .inl rfl, .inl rfl, fun s2 done2 hn hf ha _ => ?_⟩⟩
            simp only [Bool.and_eq_true] at hd
            unfold dstep
            rw [ho]
            dsimp only
            rw [ha.guard, hg]
            dsimp only
            rw [hf, if_pos hx]
            have hd2 : (dynX E.P o s2 && inDst s2 o) = true := by
              rw [dynX_alt ha.op, hd.1]
              unfold inDst at hd ⊢
              rw [hn, hd.2]
              rfl
            rw [if_pos hd2, xval_alt hx hd.1 ha.op hn hf, hv]
            try rfl
          · rw [if_neg hd] at h; cases h
        · rw [if_neg hx] at h
          by_cases hl : isL (E.H s.f) o = true
          · rw [if_pos hl] at h
            by_cases hd : inDst s o = true
            · rw [if_pos hd] at h
              obtain ⟨v, hv, he⟩ := Option.map_eq_some_iff.1 h
              obtain ⟨rfl, rfl⟩ := Prod.mk.inj he
              refine .inl ⟨drops (E.H s.f) o, v, [(i, v)], rfl, rfl, ⟨fun x hx => by unfold chg; rw [memN_app, hx]; simp, .inr ⟨rfl, hl⟩, .inr hv, fun s2 done2 hn hf ha hlv => ?_⟩⟩
              unfold dstep
              rw [ho]
              dsimp only
              rw [ha.guard, hg]
              dsimp only
              rw [hf, if_neg hx, if_pos hl]
              have hd2 : inDst s2 o = true := by
                unfold inDst at hd ⊢
                rw [hn, hd]
              have hlv' : lval E o s2 = some v := by
                rcases hlv with h | h
                · cases h
                · exact h
              rw [if_pos hd2, hlv']
              try rfl
            · rw [if_neg hd] at h; cases h
          · rw [if_neg hl] at h
            split at h
            · rename_i s2 h1
              split at h
              · rename_i hst
                obtain ⟨rfl, rfl⟩ := Prod.mk.inj (Option.some.inj h)
                exact .inr ⟨rfl, by simpa using hx, by simpa using hl, h1, hst, rfl⟩
              · cases h
            · cases h
theorem dstep_W {i : Nat} {done : List (Nat × V)} {s1 : St} {o : Oper} (ho : all[i]? = some o) (hg : guardS all o s = some true) (hx : isX E.P (E.H s.f) o = false) (hl : isL (E.H s.f) o = false) (hst : stepOV E ev o s = some s1) (hs : still E all i s1 done = true) : dstep E ev all i s done = some (s1, done) := by
  unfold dstep
  rw [ho]
  dsimp only
  rw [hg]
  simp [hx, hl, hst, hs]

theorem still_iff {i : Nat} : ∀ {l : List (Nat × V)}, still E all i s l = true ↔ ∀ k v, (k, v) ∈ l → prec all all.size k i = true ∨ ∃ o, all[k]? = some o ∧ lval E o s = some v := by
  intro l
  induction l with
  | nil => simp [still]
  | cons x l ih =>
    obtain ⟨k, v⟩ := x
    unfold still
    rw [Bool.and_eq_true, ih]
    constructor
    · rintro ⟨h1, h2⟩ k' v' hm
      rcases List.mem_cons.1 hm with e | hm
      · obtain ⟨rfl, rfl⟩ := Prod.mk.inj e
        rw [Bool.or_eq_true] at h1
        rcases h1 with h1 | h1
        · exact .inl h1
        · right
          split at h1
          · rename_i o ho
            refine ⟨o, ho, ?_⟩
            split at h1
            · assumption
            · cases h1
          · cases h1
      · exact h2 k' v' hm
    · intro h
      refine ⟨?_, fun k' v' hm => h k' v' (List.mem_cons_of_mem _ hm)⟩
      rw [Bool.or_eq_true]
      rcases h k v List.mem_cons_self with h1 | ⟨o, ho, h1⟩
      · exact .inl h1
      · right; rw [ho]; simp [h1]
theorem drun_perm : ∀ (c : List Nat) {s : St} {d d' : List (Nat × V)}, (∀ x, x ∈ d ↔ x ∈ d') → drun E ev all c s d = drun E ev all c s d' := by
  intro c
  induction c with
  | nil => intro s d d' _; rfl
  | cons i c ih =>
    intro s d d' h
    have hst : ∀ s1, still E all i s1 d = still E all i s1 d' := by
      intro s1
      rw [Bool.eq_iff_iff, still_iff, still_iff]
      exact ⟨fun hh k v hm => hh k v ((h _).2 hm), fun hh k v hm => hh k v ((h _).1 hm)⟩
    show (dstep E ev all i s d).bind _ = (dstep E ev all i s d').bind _
    unfold dstep
    cases all[i]? with
    | none => rfl
    | some o =>
      dsimp only
      cases guardS all o s with
      | none => rfl
      | some g =>
        cases g with
        | false => exact ih h
        | true =>
          dsimp only
          split
          · split
            · cases xval E ev o s with
              | none => rfl
              | some v => exact ih h
            · rfl
          · split
            · split
              · cases lval E o s with
                | none => rfl
                | some v => exact ih fun x => by simp [h x]
              · rfl
            · cases stepOV E ev o s with
              | none => rfl
              | some s1 =>
                dsimp only
                rw [hst]
                split
                · exact ih h
                · rfl

theorem apart_not {l m : List Nat} (h : apartL l m = true) {x : Nat} (hx : memN x l = true) : memN x m = false := by
  unfold apartL at h
  have := List.all_eq_true.1 h x (memN_iff.1 hx)
  simpa using this
theorem apart_not' {l m : List Nat} (h : apartL l m = true) {x : Nat} (hx : memN x m = true) : memN x l = false := by
  cases e : memN x l with
  | false => rfl
  | true => rw [apart_not h e] at hx; cases hx
theorem setT_out {t : Nat → V} {D : List Nat} {o : Oper} {v : V} {H : Hint} (hD : ∀ x, memN x D = true → memN x (chg H o) = true) {x : Nat} (hx : memN x (chg H o) = false) : setT t D o.dst v x = t x := by
  unfold setT
  have h1 : o.dst ≠ some x := by
    intro e
    unfold chg at hx
    rw [memN_app, e] at hx
    simp [memN] at hx
  have h2 : memN x D = false := by
    cases e : memN x D with
    | false => rfl
    | true => rw [hD x e] at hx; cases hx
  rw [if_neg h1, h2]; rfl
theorem setT_congr {t t' : Nat → V} {D : List Nat} {d : Option Nat} {v : V} {x : Nat} (h : t x = t' x) : setT t D d v x = setT t' D d v x := by
  unfold setT; rw [h]

/-- what stands fast of what was read -/
def Held (E : Env) (H : Hint) (all : Array Oper) (done : List (Nat × V)) (c : List Nat) : Prop := ∀ k v, (k, v) ∈ done → ∃ o, all[k]? = some o ∧ isL H o = true ∧ ∀ b ∈ c, ∀ ob, all[b]? = some ob → apartL (chg H ob) (looks all o) = true
theorem commOk_inv {H : Hint} {a i : Nat} (h : commOk E.P H all a i = true) : ∃ x y, all[a]? = some x ∧ all[i]? = some y ∧ ((isX E.P H x = true ∧ (isX E.P H y = true ∨ isL H y = true ∨ isW H y = true)) ∨ (isL H x = true ∧ (isX E.P H y = true ∨ isL H y = true ∨ isW H y = true)) ∨ (isW H x = true ∧ isX E.P H y = true)) ∧
    apartL (chg H x) (looks all y ++ chg H y) = true ∧ apartL (chg H y) (looks all x ++ chg H x) = true := by
  unfold commOk at h
  split at h
  · rename_i x y hx hy
    refine ⟨x, y, hx, hy, ?_⟩
    simp only [Bool.and_eq_true, Bool.or_eq_true] at h
    obtain ⟨⟨h1, h2⟩, h3⟩ := h
    refine ⟨?_, h2, h3⟩
    rcases h1 with (⟨h1, h4⟩ | ⟨h1, h4⟩) | ⟨h1, h4⟩
    · exact .inl ⟨h1, by rcases h4 with (h4 | h4) | h4 <;> simp [h4]⟩
    · exact .inr (.inl ⟨h1, by rcases h4 with (h4 | h4) | h4 <;> simp [h4]⟩)
    · exact .inr (.inr ⟨h1, h4⟩)
  · cases h
theorem isXL {H : Hint} {o : Oper} {P : Program} : (isX P H o = true → isL H o = false ∧ isW H o = false) ∧ (isL H o = true → isW H o = false ∧ isX P H o = false) := by
  obtain ⟨dst, op, ty, pos, af, gd⟩ := o
  cases dst with
  | none => simp [isX, isL]
  | some d =>
    cases op <;> simp [isX, isL, isW]
    rename_i c
    obtain ⟨cal, args, tys⟩ := c
    cases cal <;> simp

theorem stepOV_fn {o : Oper} {s1 : St} (h : stepOV E ev o s = some s1) : s1.f = s.f ∧ s1.n = s.n := by
  unfold stepOV at h
  split at h
  · rename_i f args tys _
    unfold callOp at h
    split at h
    · rename_i ha
      have nx := Nx.args _ ha
      split at h
      · split at h
        · unfold evCallV at h
          dsimp only at h
          split at h
          · cases h
          · split at h
            · cases h
            · obtain rfl := Option.some.inj h
              unfold backS
              exact ⟨(Nx.putO _ _ _).f.trans nx.f, (Nx.putO _ _ _).n.trans nx.n⟩
        · split at h
          · obtain rfl := Option.some.inj h
            exact ⟨(Nx.putO _ _ _).f.trans nx.f, (Nx.putO _ _ _).n.trans nx.n⟩
          · unfold evCallV at h
            dsimp only at h
            split at h
            · cases h
            · split at h
              · cases h
              · obtain rfl := Option.some.inj h
                unfold backS
                exact ⟨(Nx.putO _ _ _).f.trans nx.f, (Nx.putO _ _ _).n.trans nx.n⟩
      · cases h
    · cases h
  · unfold evOp at h
    split at h
    · split at h
      · obtain ⟨r, hr, rfl⟩ := Option.map_eq_some_iff.1 h
        have nx := Nx.evV hr
        exact ⟨nx.f, nx.n⟩
      · cases h
    · have nx := Nx.evU h
      exact ⟨nx.f, nx.n⟩
theorem swap {a i : Nat} {done d1 d2 : List (Nat × V)} {s1 s2 : St} (hc : commOk E.P (E.H s.f) all a i = true) (hself : selfOk (E.H s.f) all a = true) (hp : prec all all.size a i = false) (hd : Held E (E.H s.f) all done [a, i])
    (h1 : dstep E ev all a s done = some (s1, d1)) (h2 : dstep E ev all i s1 d1 = some (s2, d2)) : ∃ s3 d3 d4, dstep E ev all i s done = some (s3, d3) ∧ dstep E ev all a s3 d3 = some (s2, d4) ∧ ∀ x, x ∈ d4 ↔ x ∈ d2 := by
  obtain ⟨x, y, hx, hy, hcls, hap1, hap2⟩ := commOk_inv hc
  have a1 : ∀ z, memN z (looks all y) = true → memN z (chg (E.H s.f) x) = false := fun z hz => apart_not' hap1 (by rw [memN_app, hz]; rfl)
  have a2 : ∀ z, memN z (chg (E.H s.f) y) = true → memN z (chg (E.H s.f) x) = false := fun z hz => apart_not' hap1 (by rw [memN_app, hz]; simp)
  have a3 : ∀ z, memN z (looks all x) = true → memN z (chg (E.H s.f) y) = false := fun z hz => apart_not' hap2 (by rw [memN_app, hz]; rfl)
  have a4 : ∀ z, memN z (chg (E.H s.f) x) = true → memN z (chg (E.H s.f) y) = false := fun z hz => apart_not' hap2 (by rw [memN_app, hz]; simp)
  obtain ⟨x', hx', hA⟩ := dstep_inv h1
  obtain rfl : x' = x := by rw [hx] at hx'; exact (Option.some.inj hx').symm
  obtain ⟨y', hy', hI⟩ := dstep_inv h2
  obtain rfl : y' = y := by rw [hy] at hy'; exact (Option.some.inj hy').symm
  have excl := fun o => isXL (H := E.H s.f) (o := o) (P := E.P)
  rcases hA with ⟨Da, va, dna, rfl, rfl, qa⟩ | ⟨ga, xa, la, sta, hstill, rfl⟩
  · have f1 : (wt s (setT s.t Da x'.dst va)).f = s.f := rfl
    rcases hI with ⟨Di, vi, dni, rfl, rfl, qi⟩ | ⟨gi, xi, li, sti, hstill, rfl⟩
    · -- tmps alone, both
      have subi : ∀ z, memN z Di = true → memN z (chg (E.H s.f) y') = true := qi.sub
      have agri : AgrL all y' (wt s (setT s.t Da x'.dst va)) s := fun z hz => (setT_out qa.sub (a1 z hz)).symm
      have k1 := qi.again s done rfl rfl agri (by
        rcases qi.kind with e | ⟨e, hl⟩
        · exact .inl e
        · right
          rcases qi.val with e' | hv
          · rw [e'] at e; cases e
          · have := lval_alt (E := E) (o := y') (s := wt s (setT s.t Da x'.dst va)) (t2 := s.t) hl agri.op
            exact this.trans hv)
      have agra : AgrL all x' s (wt s (setT s.t Di y'.dst vi)) := fun z hz => setT_out subi (a3 z hz)
      have k2 := qa.again (wt s (setT s.t Di y'.dst vi)) (dni ++ done) rfl rfl agra (by
        rcases qa.kind with e | ⟨e, hl⟩
        · exact .inl e
        · right
          rcases qa.val with e' | hv
          · rw [e'] at e; cases e
          · exact (lval_alt (E := E) (o := x') (s := s) (t2 := setT s.t Di y'.dst vi) hl agra.op).trans hv)
      refine ⟨_, _, _, k1, k2.trans ?_, fun z => (show z ∈ dna ++ (dni ++ done) ↔ z ∈ dni ++ (dna ++ done) from by simp only [List.mem_append]; exact ⟨fun h => by rcases h with h | h | h <;> simp [h], fun h => by rcases h with h | h | h <;> simp [h]⟩)⟩
      congr 2
      show wt s _ = wt s _
      congr 1
      funext z
      show setT (setT s.t Di y'.dst vi) Da x'.dst va z = setT (setT s.t Da x'.dst va) Di y'.dst vi z
      by_cases hz : memN z (chg (E.H s.f) x') = true
      · rw [setT_out (t := setT s.t Da x'.dst va) subi (a4 z hz)]
        exact setT_congr (setT_out subi (a4 z hz))
      · have hz' : memN z (chg (E.H s.f) x') = false := by simpa using hz
        rw [setT_out (t := setT s.t Di y'.dst vi) qa.sub hz']
        exact setT_congr (setT_out qa.sub hz').symm
    · -- the second turns objects
      have wi : isW (E.H s.f) y' = true := by
        have xi' : isX E.P (E.H s.f) y' = false := xi
        have li' : isL (E.H s.f) y' = false := li
        rcases hcls with ⟨_, h⟩ | ⟨_, h⟩ | ⟨_, h⟩
        · rcases h with h | h | h
          · rw [xi'] at h; cases h
          · rw [li'] at h; cases h
          · exact h
        · rcases h with h | h | h
          · rw [xi'] at h; cases h
          · rw [li'] at h; cases h
          · exact h
        · rw [xi'] at h; cases h
      have agri : AgrL all y' (wt s (setT s.t Da x'.dst va)) s := fun z hz => (setT_out qa.sub (a1 z hz)).symm
      obtain ⟨m1, m2⟩ := stepW_alt (E := E) (ev := ev) (o := y') (s := wt s (setT s.t Da x'.dst va)) (t2 := s.t) wi sti agri.op
      have m1' : stepOV E ev y' s = some (wt s2 fun z => if memN z (chg (E.H s.f) y') then s2.t z else s.t z) := m1
      have m2' : ∀ z, memN z (chg (E.H s.f) y') = false → s2.t z = setT s.t Da x'.dst va z := m2
      have gi' : guardS all y' s = some true := by rw [← gi]; exact (AgrL.guard (s := wt s (setT s.t Da x'.dst va)) (s2 := s) agri)
      have nx2 := stepOV_fn sti
      -- what the two worlds differ in
      have diff : ∀ z, memN z (chg (E.H s.f) x') = false → (if memN z (chg (E.H s.f) y') then s2.t z else s.t z) = s2.t z := by
        intro z hz
        split
        · rfl
        · rename_i h
          have h' : memN z (chg (E.H s.f) y') = false := by simpa using h
          rw [m2' z h', setT_out qa.sub hz]
      have fs2 : s2.f = s.f := nx2.1
      have lv2 : ∀ (o : Oper) (v : V), isL (E.H s.f) o = true → (∀ z, memN z (looks all o) = true → memN z (chg (E.H s.f) x') = false) → lval E o s2 = some v → lval E o (wt s2 fun z => if memN z (chg (E.H s.f) y') then s2.t z else s.t z) = some v := by
        intro o v hl hz hv
        have := lval_alt (E := E) (o := o) (s := s2) (t2 := fun z => if memN z (chg (E.H s.f) y') then s2.t z else s.t z) (by rw [fs2]; exact hl) (fun i hi => diff i (hz i (looks_op hi)))
        exact this.trans hv
      have hst2 : still E all i (wt s2 fun z => if memN z (chg (E.H s.f) y') then s2.t z else s.t z) done = true := by
        rw [still_iff] at hstill ⊢
        intro k v hm
        rcases hstill k v (List.mem_append_right _ hm) with h | ⟨o, ho, hv⟩
        · exact .inl h
        · obtain ⟨o', ho', hl, hap⟩ := hd k v hm
          obtain rfl : o' = o := by rw [ho] at ho'; exact (Option.some.inj ho').symm
          exact .inr ⟨o', ho, lv2 o' v hl (fun z hz => apart_not' (hap a (by simp) x' hx) hz) hv⟩
      have k1 : dstep E ev all i s done = some (_, done) := dstep_W hy gi' xi li m1' hst2
      refine ⟨_, _, _, k1, (qa.again (wt s2 fun z => if memN z (chg (E.H s.f) y') then s2.t z else s.t z) done nx2.2 fs2 (fun z hz => ?_) ?_).trans ?_, fun z => Iff.rfl⟩
      · show (if memN z (chg (E.H s.f) y') then s2.t z else s.t z) = s.t z
        rw [if_neg (by rw [a3 z hz]; simp)]
      · rcases qa.kind with e | ⟨e, hl⟩
        · exact .inl e
        · right
          have hsf : apartL (chg (E.H s.f) x') (looks all x') = true := by
            unfold selfOk at hself
            rw [hx] at hself
            simpa [hl] using hself
          rw [still_iff] at hstill
          rcases hstill a va (by rw [e]; exact List.mem_append_left _ (List.mem_singleton.2 rfl)) with h | ⟨o, ho, hv⟩
          · rw [hp] at h; cases h
          · obtain rfl : o = x' := by rw [ho] at hx; exact Option.some.inj hx
            exact lv2 o va hl (fun z hz => apart_not' hsf hz) hv
      · congr 2
        show wt s2 _ = s2
        have : (setT (fun z => if memN z (chg (E.H s.f) y') then s2.t z else s.t z) Da x'.dst va) = s2.t := by
          funext z
          by_cases hz : memN z (chg (E.H s.f) x') = true
          · have h4 := a4 z hz
            rw [m2' z h4]
            exact setT_congr (by rw [if_neg (by rw [h4]; simp)])
          · have hz' : memN z (chg (E.H s.f) x') = false := by simpa using hz
            rw [setT_out qa.sub hz']
            exact diff z hz'
        exact congrArg (wt s2) this
  · -- the first turns objects
    have wa : isW (E.H s.f) x' = true ∧ isX E.P (E.H s.f) y' = true := by
      rcases hcls with ⟨h, _⟩ | ⟨h, _⟩ | h
      · rw [xa] at h; cases h
      · rw [la] at h; cases h
      · exact h
    have fn1 := stepOV_fn sta
    have xi1 : isX E.P (E.H s1.f) y' = true := by rw [fn1.1]; exact wa.2
    rcases hI with ⟨Di, vi, dni, rfl, rfl, qi⟩ | ⟨gi, xi, li, sti, hst2, rfl⟩
    · have hdn : dni = [] := by
        rcases qi.kind with e | ⟨e, hl⟩
        · exact e
        · rw [((excl y').1 wa.2).1 |> fun h => (by rw [fn1.1]; exact h : isL (E.H s1.f) y' = false)] at hl; cases hl
      subst hdn
      have subi : ∀ z, memN z Di = true → memN z (chg (E.H s.f) y') = true := fun z hz => by have := qi.sub z hz; rw [fn1.1] at this; exact this
      obtain ⟨_, fr⟩ := stepW_alt (E := E) (ev := ev) (o := x') (s := s) (t2 := s.t) wa.1 sta (fun _ _ => rfl)
      have agri : AgrL all y' s1 s := fun z hz => (fr z (a1 z hz)).symm
      have k1 := qi.again s d1 fn1.2.symm fn1.1.symm agri (.inl rfl)
      have agra : AgrL all x' s (wt s (setT s.t Di y'.dst vi)) := fun z hz => setT_out subi (a3 z hz)
      obtain ⟨m1, _⟩ := stepW_alt (E := E) (ev := ev) (o := x') (s := s) (t2 := setT s.t Di y'.dst vi) wa.1 sta agra.op
      have hT : (fun z => if memN z (chg (E.H s.f) x') then s1.t z else setT s.t Di y'.dst vi z) = setT s1.t Di y'.dst vi := by
        funext z
        by_cases hz : memN z (chg (E.H s.f) x') = true
        · rw [if_pos hz, setT_out subi (a4 z hz)]
        · have hz' : memN z (chg (E.H s.f) x') = false := by simpa using hz
          rw [if_neg hz]
          exact setT_congr (fr z hz').symm
      rw [hT] at m1
      have hst3 : still E all a (wt s1 (setT s1.t Di y'.dst vi)) d1 = true := by
        rw [still_iff] at hstill ⊢
        intro k v hm
        rcases hstill k v hm with h | ⟨o, ho, hv⟩
        · exact .inl h
        · obtain ⟨o', ho', hl, hap⟩ := hd k v hm
          obtain rfl : o' = o := by rw [ho] at ho'; exact (Option.some.inj ho').symm
          refine .inr ⟨o', ho, ?_⟩
          exact (lval_alt (E := E) (o := o') (s := s1) (t2 := setT s1.t Di y'.dst vi) (by rw [fn1.1]; exact hl) (fun j hj => setT_out subi (apart_not' (hap i (by simp) y' hy) (looks_op hj)))).trans hv
      have ga' : guardS all x' (wt s (setT s.t Di y'.dst vi)) = some true := by rw [← ga]; exact agra.guard
      exact ⟨_, _, _, k1, dstep_W hx ga' xa la m1 hst3, fun z => Iff.rfl⟩
    · rw [xi1] at xi; cases xi

/-! ### all orders -/
def Fit (E : Env) (H : Hint) (all : Array Oper) (a i : Nat) : Prop := pairOk E.P H all a i = true
theorem Fit.held {H : Hint} {a i : Nat} (h : Fit E H all a i) {x y : Oper} (hx : all[a]? = some x) (hy : all[i]? = some y) (hl : isL H x = true) : apartL (chg H y) (looks all x) = true := by
  unfold Fit pairOk at h
  rw [hx, hy] at h
  simp only [Bool.and_eq_true, hl, Bool.not_true, Bool.false_or] at h
  exact h.2
theorem Held.step {i : Nat} {c : List Nat} {done d1 : List (Nat × V)} {s1 : St} (h : Held E (E.H s.f) all done c) (hs : dstep E ev all i s done = some (s1, d1)) (hnew : ∀ x, all[i]? = some x → isL (E.H s.f) x = true → ∀ b ∈ c, ∀ ob, all[b]? = some ob → apartL (chg (E.H s.f) ob) (looks all x) = true) : Held E (E.H s.f) all d1 c := by
  obtain ⟨o, ho, hA⟩ := dstep_inv hs
  rcases hA with ⟨D, v, dn, _, rfl, q⟩ | ⟨_, _, _, _, _, rfl⟩
  · rcases q.kind with rfl | ⟨rfl, hl⟩
    · exact h
    · intro k v' hm
      rcases List.mem_append.1 hm with hm | hm
      · obtain ⟨rfl, rfl⟩ := Prod.mk.inj (List.mem_singleton.1 hm)
        exact ⟨o, ho, hl, hnew o ho hl⟩
      · exact h k v' hm
  · exact h
theorem dstep_f {i : Nat} {done d1 : List (Nat × V)} {s1 : St} (hs : dstep E ev all i s done = some (s1, d1)) : s1.f = s.f := by
  obtain ⟨o, ho, hA⟩ := dstep_inv hs
  rcases hA with ⟨D, v, dn, rfl, rfl, q⟩ | ⟨_, _, _, h, _, rfl⟩
  · rfl
  · exact (stepOV_fn h).1
theorem front {i : Nat} {post : List Nat} : ∀ (pre : List Nat) {s s' : St} {done : List (Nat × V)}, (∀ a ∈ pre, commOk E.P (E.H s.f) all a i = true ∧ selfOk (E.H s.f) all a = true ∧ prec all all.size a i = false) → (pre ++ [i]).Pairwise (Fit E (E.H s.f) all) → Held E (E.H s.f) all done (pre ++ [i]) →
    drun E ev all (pre ++ i :: post) s done = some s' → drun E ev all (i :: (pre ++ post)) s done = some s' := by
  intro pre
  induction pre with
  | nil => intro s s' done _ _ _ h; exact h
  | cons a pre ih =>
    intro s s' done hc hp hh h
    obtain ⟨⟨s1, d1⟩, h1, h2⟩ := Option.bind_eq_some_iff.1 h
    have f1 := dstep_f h1
    have hp' := List.pairwise_cons.1 hp
    have hh1 : Held E (E.H s.f) all d1 (pre ++ [i]) := Held.step (fun k v hm => by
      obtain ⟨o, h3, h4, h5⟩ := hh k v hm
      exact ⟨o, h3, h4, fun b hb => h5 b (List.mem_cons_of_mem _ hb)⟩) h1 fun x hx hl b hb ob hob => (hp'.1 b hb).held hx hob hl
    have h3 := ih (s := s1) (by rw [f1]; exact fun b hb => hc b (List.mem_cons_of_mem _ hb)) (by rw [f1]; exact hp'.2) (by rw [f1]; exact hh1) h2
    obtain ⟨⟨s2, d2⟩, h4, h5⟩ := Option.bind_eq_some_iff.1 h3
    obtain ⟨c1, c2, c3⟩ := hc a List.mem_cons_self
    obtain ⟨s3, d3, d4, k1, k2, k3⟩ := swap c1 c2 c3 (fun k v hm => by
      obtain ⟨o, h6, h7, h8⟩ := hh k v hm
      exact ⟨o, h6, h7, fun b hb => h8 b (by
        rcases List.mem_cons.1 hb with rfl | hb
        · exact List.mem_cons_self
        · rw [List.mem_singleton.1 hb]; exact List.mem_append_right _ (List.mem_singleton.2 rfl))⟩) h1 h4
    refine Option.bind_eq_some_iff.2 ⟨(s3, d3), k1, ?_⟩
    refine Option.bind_eq_some_iff.2 ⟨(s2, d4), k2, ?_⟩
    dsimp only
    rw [drun_perm _ k3]
    exact h5

def Closed (all : Array Oper) (listed : Array Bool) : Prop := ∀ j o, listed.getD j false = true → all[j]? = some o → ∀ e ∈ edges o, listed.getD e false = true
theorem prec_listed {listed : Array Bool} (hcl : Closed all listed) {a : Nat} : ∀ (n i : Nat) (o : Oper), all[i]? = some o → (∀ e ∈ edges o, listed.getD e false = true) → prec all n a i = true → listed.getD a false = true := by
  intro n
  induction n with
  | zero => intro i o _ _ h; cases h
  | succ n ih =>
    intro i o ho he h
    unfold prec at h
    rw [ho] at h
    obtain ⟨e, hm, hx⟩ := List.any_eq_true.1 h
    have hle := he e hm
    rw [Bool.or_eq_true] at hx
    rcases hx with hx | hx
    · have : e = a := by simpa using hx
      rw [← this]; exact hle
    · cases n with
      | zero => cases hx
      | succ n =>
        have hx' := hx
        unfold prec at hx'
        split at hx'
        · rename_i o' ho'
          exact ih e o' ho' (hcl e o' hle ho') hx
        · cases hx'
theorem edges_mem {o : Oper} {e : Edge} (he : e ∈ o.after) (hb : Region.binds .any e = true) : e.on ∈ edges o := by
  unfold edges
  exact List.mem_map.2 ⟨e, List.mem_filter.2 ⟨Array.mem_toList_iff.2 he, hb⟩, rfl⟩
theorem edges_inv {o : Oper} {n : Nat} (h : n ∈ edges o) : ∃ e ∈ o.after, Region.binds .any e = true ∧ e.on = n := by
  unfold edges at h
  obtain ⟨e, he, rfl⟩ := List.mem_map.1 h
  obtain ⟨h1, h2⟩ := List.mem_filter.1 he
  exact ⟨e, Array.mem_toList_iff.1 h1, h2, rfl⟩
end Go.Ev
