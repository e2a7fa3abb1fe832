/- The frames of readings and of what turns objects. -/
import Derived.Test.YtdepiibcopbjlaaEvFoot3
namespace Go.Ev
open Go
set_option linter.unusedVariables false
set_option linter.unusedSimpArgs false
variable {P : Program} {E : Env} {s : St} {H : Hint} {ev : Run} {o : Oper}

/-- the same with other tmps -/
def wt (s : St) (t2 : Nat → V) : St := { s with t := t2 }
variable {t2 : Nat → V}
theorem wt_setOb (lv u : Nat) (ob : Ob) : (wt s t2).setOb lv u ob = wt (s.setOb lv u ob) t2 := by
  unfold St.setOb wt
  dsimp only
  split <;> rfl
theorem wt_ob (lv u : Nat) : (wt s t2).ob lv u = s.ob lv u := rfl
theorem wt_frz (v : V) : (wt s t2).frz v = wt (s.frz v) t2 := by
  unfold St.frz
  cases v with
  | aref lv t n =>
    dsimp only
    rw [wt_ob]
    cases s.ob lv t with
    | none => rfl
    | some ob =>
      cases ob with
      | arr fz sz l =>
        cases fz
        · exact wt_setOb _ _ _
        · rfl
      | _ => rfl
  | _ => rfl
theorem wt_load {tk : Bool} {t : TypeId} {u : V} : vLoad P (wt s t2) tk t u = (vLoad P s tk t u).map fun r => (r.1, wt r.2 t2) := by
  unfold vLoad
  cases u with
  | ptr lv u off =>
    dsimp only
    rw [wt_ob]
    cases s.ob lv u with
    | none => rfl
    | some ob =>
      cases ob with
      | box cs =>
        dsimp only
        split
        · cases tk
          · rfl
          · simp only [if_true, wt_setOb, Option.map]
        · rfl
      | _ => rfl
  | imp l => dsimp only; split <;> rfl
  | eptr lv u i sz =>
    dsimp only
    rw [wt_ob]
    cases s.ob lv u with
    | none => rfl
    | some ob =>
      cases ob with
      | arr fz sz' l => dsimp only; split <;> rfl
      | _ => rfl
  | _ => rfl
theorem wt_tree (v : V) : Ev.tree (wt s t2) v = Ev.tree s v := by
  unfold Ev.tree
  split <;> rfl
theorem wt_treeSt {ty : TypeId} {x : Operand} (h : (wt s t2).see P ty x = s.see P ty x) : (wt s t2).tree P ty x = (s.tree P ty x).map fun r => (r.1, wt r.2 t2) := by
  unfold St.tree
  dsimp only
  rw [h, wt_frz, wt_tree]
  cases Ev.tree (s.frz (s.see P ty x)) (s.see P ty x) <;> rfl
theorem wt_arg {ty : TypeId} {x : Operand} (h : (wt s t2).see P ty x = s.see P ty x) : (wt s t2).arg P ty x = (s.arg P ty x).map fun r => (r.1, wt r.2 t2) := by
  have := wt_treeSt (s := s) (t2 := t2) (P := P) h
  unfold St.arg
  rw [h]
  split
  · rfl
  · rfl
  · rfl
  · exact this
theorem arg_t {ty : TypeId} {x : Operand} {v : V} {s1 : St} (h : s.arg P ty x = some (v, s1)) : s1.t = s.t := by
  unfold St.arg at h
  split at h
  · obtain ⟨_, rfl⟩ := Prod.mk.inj (Option.some.inj h); rfl
  · obtain ⟨_, rfl⟩ := Prod.mk.inj (Option.some.inj h); rfl
  · obtain ⟨_, rfl⟩ := Prod.mk.inj (Option.some.inj h); rfl
  · unfold St.tree at h
    obtain ⟨_, _, he⟩ := Option.map_eq_some_iff.1 h
    obtain ⟨_, rfl⟩ := Prod.mk.inj he
    exact frz_t _
theorem args_t : ∀ (xs : List (TypeId × Operand)) {s s1 : St} {vs : List V}, St.args P s xs = some (vs, s1) → s1.t = s.t := by
  intro xs
  induction xs with
  | nil => intro s s1 vs h; obtain ⟨_, rfl⟩ := Prod.mk.inj (Option.some.inj h); rfl
  | cons x xs ih =>
    intro s s1 vs h
    unfold St.args at h
    split at h
    · rename_i h1
      split at h
      · rename_i h2
        obtain ⟨_, rfl⟩ := Prod.mk.inj (Option.some.inj h)
        exact (ih h2).trans (arg_t h1)
      · cases h
    · cases h
theorem wt_args : ∀ (xs : List (TypeId × Operand)) {s : St}, (∀ i, .tmp i ∈ xs.map Prod.snd → t2 i = s.t i) → St.args P (wt s t2) xs = (St.args P s xs).map fun r => (r.1, wt r.2 t2) := by
  intro xs
  induction xs with
  | nil => intro s _; rfl
  | cons x xs ih =>
    intro s h
    obtain ⟨ty, x⟩ := x
    unfold St.args
    rw [wt_arg (see_alt fun i hi => h i (by rw [← hi]; exact List.mem_cons_self))]
    cases ha : s.arg P ty x with
    | none => rfl
    | some r =>
      obtain ⟨v, s1⟩ := r
      dsimp only [Option.map]
      rw [ih (s := s1) fun i hi => (h i (List.mem_cons_of_mem _ hi)).trans (by rw [arg_t ha])]
      cases St.args P s1 xs <;> rfl

theorem lval_alt (hx : isL (E.H s.f) o = true) (hag : AgrO o s (wt s t2)) : lval E o (wt s t2) = lval E o s := by
  obtain ⟨dst, op, ty, pos, af, gd⟩ := o
  have hs := fun (x : Operand) hx ty => AgrO.see (P := E.P) (x := x) hag hx ty
  unfold lval
  show Option.map _ (evV E.P (E.H s.f) (dst.getD 0) ty op (wt s t2)) = Option.map _ (evV E.P (E.H s.f) (dst.getD 0) ty op s)
  cases dst with
  | none => simp [isL] at hx
  | some d =>
    cases op
    case load t a =>
      have htk : memN d (E.H s.f).take = false := by simpa [isL] using hx
      simp only [evV, Option.getD_some, htk]
      rw [hs a (by simp [Op.operands])]
      rw [wt_load]
      cases vLoad E.P s false t (s.see E.P 0 a) <;> rfl
    case lookup t m k ok =>
      simp only [evV]
      split
      · rw [hs m (by simp [Op.operands]), hs k (by simp [Op.operands]), fst_pair, fst_pair]
        rfl
      · rfl
    all_goals (simp [isL] at hx; done)
theorem lval_step {v : V} (hx : isL (E.H s.f) o = true) (hin : inDst s o = true) (hv : lval E o s = some v) : stepOV E ev o s = some (s.setX (E.H s.f) o v) := by
  obtain ⟨dst, op, ty, pos, af, gd⟩ := o
  rw [setX_eq]
  cases dst with
  | none => simp [isL] at hx
  | some d =>
    have hlt : d < s.n := by simpa [inDst] using hin
    unfold lval at hv
    obtain ⟨⟨v', s1⟩, hev, rfl⟩ := Option.map_eq_some_iff.1 hv
    have fin : s1 = s → evOp E.P (E.H s.f) ⟨some d, op, ty, pos, af, gd⟩ s = some (s.put d v') := by
      rintro rfl
      unfold evOp
      dsimp only
      rw [if_pos hlt]
      show Option.map _ (evV E.P (E.H s1.f) d ty op s1) = _
      rw [show evV E.P (E.H s1.f) d ty op s1 = some (v', s1) from hev]
      rfl
    cases op
    case load t a =>
      have htk : memN d (E.H s.f).take = false := by simpa [isL] using hx
      refine fin ?_
      simp only [evV, Option.getD_some, htk] at hev
      unfold vLoad at hev
      split at hev
      · split at hev
        · simp only [Bool.false_eq_true, if_false] at hev
          split at hev
          · exact ((Prod.mk.inj (Option.some.inj hev)).2).symm
          · cases hev
        · cases hev
      · split at hev
        · exact ((Prod.mk.inj (Option.some.inj hev)).2).symm
        · cases hev
      · split at hev
        · split at hev
          · exact ((Prod.mk.inj (Option.some.inj hev)).2).symm
          · cases hev
        · cases hev
      · cases hev
    case lookup t m k ok =>
      refine fin ?_
      simp only [evV] at hev
      split at hev
      · exact pk' hev
      · cases hev
    all_goals (simp [isL] at hx; done)
theorem guard_alt {all : Array Oper} (h : ∀ j want d, o.guard = some (j, want) → (all[j]?).bind (·.dst) = some d → t2 d = s.t d) {s2 : St} (hs : s2.t = t2) : guardS all o s2 = guardS all o s := by
  unfold guardS
  cases hg : o.guard with
  | none => rfl
  | some jw =>
    obtain ⟨j, want⟩ := jw
    dsimp only
    have : ((all[j]?).bind (·.dst)).map s2.t = ((all[j]?).bind (·.dst)).map s.t := by
      cases hd : (all[j]?).bind (·.dst) with
      | none => rfl
      | some d =>
        simp only [Option.map]
        rw [hs, h j want d hg hd]
    rw [this]
theorem upd_mix {s3 : St} {d : Nat} {v : V} (D : List Nat) (hD : memN d D = true) (h3 : ∀ x, memN x D = true → x ≠ d → t2 x = s3.t x) : upd t2 d v = fun x => if memN x D then (s3.put d v).t x else t2 x := by
  funext x
  show upd t2 d v x = if memN x D then upd s3.t d v x else t2 x
  unfold upd
  by_cases e : x = d
  · subst e; simp [hD]
  · simp only [if_neg e]
    split
    · rename_i h; exact h3 x h e
    · rfl
theorem wt_callOp {d : Nat} {f : Operand} {args : Array Operand} {tys : Array TypeId} (hf : (wt s t2).see E.P 0 f = s.see E.P 0 f) (ha : ∀ i, .tmp i ∈ args.toList → t2 i = s.t i) :
    (∃ g vs outer plain s1, callOp E (some d) f args tys [] s = .call g vs outer plain (some d) [] s1 ∧ callOp E (some d) f args tys [] (wt s t2) = .call g vs outer plain (some d) [] (wt s1 t2) ∧ s1.t = s.t) ∨
    (∃ s1 v, callOp E (some d) f args tys [] s = .go [] (s1.put d v) ∧ callOp E (some d) f args tys [] (wt s t2) = .go [] ((wt s1 t2).put d v) ∧ s1.t = s.t) ∨ callOp E (some d) f args tys [] s = .fail := by
  unfold callOp
  rw [hf, wt_args _ fun i hi => ha i (by
    obtain ⟨x, hx, he⟩ := List.mem_map.1 hi
    have := (List.of_mem_zip hx).2
    rw [he] at this; exact this)]
  cases s.see E.P 0 f with
  | fn g caps =>
    cases hargs : s.args E.P (tys.toList.zip args.toList) with
    | none => exact .inr (.inr rfl)
    | some r =>
      obtain ⟨vs, s1⟩ := r
      have ht := args_t _ hargs
      dsimp only [Option.map]
      by_cases hc : args.size = tys.size ∧ (some d).all (fun d => decide (d < s.n)) = true
      · have hc2 : args.size = tys.size ∧ (some d).all (fun d => decide (d < (wt s t2).n)) = true := hc
        rw [if_pos hc, if_pos hc2]
        cases hb : (vs ++ caps).any isRef || !caps.isEmpty with
        | true => exact .inl ⟨_, _, _, _, s1, rfl, rfl, ht⟩
        | false =>
          simp only [Bool.false_eq_true, if_false]
          cases ho : E.orc g (vs ++ caps) with
          | some v => exact .inr (.inl ⟨s1, v, rfl, rfl, ht⟩)
          | none => exact .inl ⟨_, _, _, _, s1, rfl, rfl, ht⟩
      · have hc2 : ¬(args.size = tys.size ∧ (some d).all (fun d => decide (d < (wt s t2).n)) = true) := hc
        rw [if_neg hc]
        exact .inr (.inr rfl)
  | _ => exact .inr (.inr rfl)
/-- what turns objects is told by what it looks at -/
theorem stepW_alt {s1 : St} (hw : isW (E.H s.f) o = true) (hst : stepOV E ev o s = some s1) (hag : AgrO o s (wt s t2)) :
    stepOV E ev o (wt s t2) = some (wt s1 fun x => if memN x (chg (E.H s.f) o) then s1.t x else t2 x) ∧ ∀ x, memN x (chg (E.H s.f) o) = false → s1.t x = s.t x := by
  obtain ⟨dst, op, ty, pos, af, gd⟩ := o
  have hs := fun (x : Operand) hx ty => AgrO.see (P := E.P) (x := x) hag hx ty
  cases op
  case alloc e =>
    cases dst with
    | none => simp [isW] at hw
    | some d =>
      have hst' : evOp E.P (E.H s.f) ⟨some d, .alloc e, ty, pos, af, gd⟩ s = some s1 := hst
      show evOp E.P (E.H s.f) ⟨some d, .alloc e, ty, pos, af, gd⟩ (wt s t2) = _ ∧ _
      unfold evOp at hst' ⊢
      dsimp only at hst' ⊢
      split at hst'
      · rename_i hlt
        have hlt2 : d < (wt s t2).n := hlt
        rw [if_pos hlt2]
        obtain ⟨⟨v, s3⟩, h1, rfl⟩ := Option.map_eq_some_iff.1 hst'
        simp only [evV] at h1 ⊢
        have e0 : (wt s t2).b = s.b := rfl
        have e1 : (wt s t2).lv = s.lv := rfl
        rw [e0, e1]
        split at h1
        · rename_i z hb hz
          split at h1
          · rename_i hl
            obtain ⟨rfl, rfl⟩ := Prod.mk.inj (Option.some.inj h1)
            rw [if_pos hl]
            refine ⟨?_, fun x hx => ?_⟩
            · simp only [Option.map, Option.some.injEq]
              show ({ t := upd t2 d _, b := _, o := _, r := _, f := _, n := _ } : St) = _
              rw [upd_mix (s3 := s) [d] (by simp [memN]) (fun x hx hne => by simp [memN, hne] at hx)]
              rfl
            · show upd s.t d _ x = s.t x
              unfold upd
              have : x ≠ d := by rintro rfl; simp [chg, drops, memN] at hx
              rw [if_neg this]
          · cases h1
        · cases h1
      · cases hst'
  case store t x y =>
    cases dst with
    | some d => simp [isW] at hw
    | none =>
      have hst' : uStore E.P s t y (s.see E.P 0 x) = some s1 := hst
      show uStore E.P (wt s t2) t y ((wt s t2).see E.P 0 x) = _ ∧ _
      rw [hs x (by simp [Op.operands])]
      have hall : (wt s t2).all E.P t y = s.all E.P t y := all_alt fun i hi => hag i (by simp [Op.operands, hi])
      have hch : chg (E.H s.f) ⟨none, .store t x y, ty, pos, af, gd⟩ = tmpsOf [y] := by simp [chg, drops]
      rw [hch]
      have hyt : ∀ i, memN i (tmpsOf [y]) = true → t2 i = s.t i := by
        intro i hi
        cases y with
        | tmp j =>
          have : i = j := by simpa [tmpsOf, memN] using hi
          subst this
          exact hag i (by simp [Op.operands])
        | _ => simp [tmpsOf, memN] at hi
      generalize s.see E.P 0 x = u at hst'
      unfold uStore at hst' ⊢
      cases u with
      | ptr lv u off =>
        dsimp only at hst' ⊢
        rw [wt_ob, hall]
        cases ho : s.ob lv u with
        | none => rw [ho] at hst'; cases hst'
        | some ob =>
          rw [ho] at hst'
          cases ob with
          | box cs =>
            dsimp only at hst' ⊢
            split at hst'
            · rename_i hc
              rw [if_pos hc]
              have fin : some ((s.drop y).setOb lv u (.box (setL cs off (s.all E.P t y).flat))) = some s1 → some (((wt s t2).drop y).setOb lv u (.box (setL cs off (s.all E.P t y).flat))) = some (wt s1 fun x => if memN x (tmpsOf [y]) then s1.t x else t2 x) ∧ ∀ x, memN x (tmpsOf [y]) = false → s1.t x = s.t x := by
                intro h
                obtain rfl := Option.some.inj h
                have e2 : (wt s t2).drop y = wt (s.drop y) (fun x => if memN x (tmpsOf [y]) then (t2 x).view else t2 x) := by rw [drop_eq, drop_eq]; rfl
                refine ⟨?_, fun z hz => ?_⟩
                · rw [e2, wt_setOb, setOb_t, drop_t]
                  congr 2
                  funext z
                  by_cases hz : memN z (tmpsOf [y]) = true
                  · simp [hz, hyt z hz]
                  · simp [hz]
                · rw [setOb_t, drop_t]
                  dsimp only
                  rw [hz]; rfl
              split at hst'
              · cases hst'
              · cases hst'
              · rename_i h1 h2
                exact fin hst'
            · cases hst'
          | _ => cases hst'
      | eptr lv u i sz =>
        dsimp only at hst' ⊢
        rw [wt_treeSt (hs y (by simp [Op.operands]) t)]
        cases htr : s.tree E.P t y with
        | none => rw [htr] at hst'; cases hst'
        | some r =>
          obtain ⟨v, s3⟩ := r
          rw [htr] at hst'
          dsimp only [Option.map] at hst' ⊢
          have h3 : s3.t = s.t := by
            unfold St.tree at htr
            obtain ⟨_, _, he⟩ := Option.map_eq_some_iff.1 htr
            obtain ⟨_, rfl⟩ := Prod.mk.inj he
            exact frz_t _
          rw [wt_ob]
          cases ho : s3.ob lv u with
          | none => rw [ho] at hst'; cases hst'
          | some ob =>
            rw [ho] at hst'
            cases ob with
            | arr fz sz' l =>
              cases fz with
              | true => cases hst'
              | false =>
                dsimp only at hst' ⊢
                split at hst'
                · rename_i hc
                  rw [if_pos hc]
                  obtain rfl := Option.some.inj hst'
                  refine ⟨?_, fun z _ => by rw [setOb_t, h3]⟩
                  rw [wt_setOb, setOb_t, h3]
                  congr 2
                  funext z
                  split
                  · rename_i hz; exact hyt z hz
                  · rfl
                · cases hst'
            | _ => cases hst'
      | _ => cases hst'
  case call c =>
    obtain ⟨callee, args, argTypes⟩ := c
    cases callee with
    | value f =>
      cases dst with
      | none => simp [isW] at hw
      | some d =>
        have hch : chg (E.H s.f) ⟨some d, .call { callee := .value f, args := args, argTypes := argTypes }, ty, pos, af, gd⟩ = [d] := by simp [chg, drops]
        rw [hch]
        have hst' : evCallV E ev (callOp E (some d) f args argTypes [] s) = some s1 := hst
        show evCallV E ev (callOp E (some d) f args argTypes [] (wt s t2)) = _ ∧ _
        have put_mix : ∀ (s3 : St) (v : V), s3.t = s.t → (wt s3 t2).put d v = wt (s3.put d v) (fun x => if memN x [d] then (s3.put d v).t x else t2 x) ∧ ∀ x, memN x [d] = false → (s3.put d v).t x = s.t x := by
          intro s3 v h3
          refine ⟨?_, fun x hx => ?_⟩
          · show ({ t := upd t2 d v, b := s3.b, o := s3.o, r := s3.r, f := s3.f, n := s3.n } : St) = _
            rw [upd_mix (s3 := s3) [d] (by simp [memN]) (fun x hx hne => by simp [memN, hne] at hx)]
            rfl
          · show upd s3.t d v x = s.t x
            unfold upd
            have : x ≠ d := by rintro rfl; simp [memN] at hx
            rw [if_neg this, h3]
        rcases wt_callOp (E := E) (s := s) (t2 := t2) (d := d) (tys := argTypes) (hs f (by simp [Op.operands, Call.operands]) 0) (fun i hi => hag i (by simp only [Op.operands, Call.operands]; simp; exact .inr (Array.mem_toList_iff.1 hi))) with ⟨g, vs, outer, plain, s3, e1, e2, e3⟩ | ⟨s3, v, e1, e2, e3⟩ | e1
        · rw [e1] at hst'
          rw [e2]
          unfold evCallV at hst' ⊢
          dsimp only at hst' ⊢
          split at hst'
          · cases hst'
          · split at hst'
            · cases hst'
            · rename_i r hr
              obtain rfl := Option.some.inj hst'
              unfold backS
              obtain ⟨p1, p2⟩ := put_mix s3 r.1 e3
              cases plain
              · simp only [Bool.false_eq_true, if_false]
                refine ⟨?_, p2⟩
                show some ({ (wt s3 t2).put d r.1 with b := r.2.headD n0, o := r.2.tail } : St) = _
                rw [p1]
                rfl
              · simp only [if_true]
                exact ⟨congrArg some p1, p2⟩
        · rw [e1] at hst'
          rw [e2]
          obtain rfl := Option.some.inj (show some (s3.put d v) = some s1 from hst')
          obtain ⟨p1, p2⟩ := put_mix s3 v e3
          exact ⟨congrArg some p1, p2⟩
        · rw [e1] at hst'; cases hst'
    | _ => simp [isW] at hw
  all_goals (simp [isW] at hw; done)
end Go.Ev
