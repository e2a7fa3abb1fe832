/- The frames of readings and of what turns objects. -/
import Derived.Test.YtcmnfoombinccaaEvK
set_option linter.unusedVariables false
set_option linter.unusedSimpArgs false
namespace Go.Ev
open Go
set_option linter.unusedVariables false
set_option linter.unusedSimpArgs false
variable {P : Program} {E : Env} {s : St} {H : Hint} {ev : Run} {o : Oper}

/-- the same with other tmps -/
def wt (s : St) (t2 : Nat → V) : St := { s with t := t2 }
variable {t2 : Nat → V}
theorem wt_setOb (lv u : Nat) (ob : Ob) : (wt s t2).setOb lv u ob = wt (s.setOb lv u ob) t2 := by
  unfold St.setOb wt
  dsimp only
  split <;> rfl
theorem wt_ob (lv u : Nat) : (wt s t2).ob lv u = s.ob lv u := rfl
theorem wt_frz (v : V) : (wt s t2).frz v = wt (s.frz v) t2 := by
  unfold St.frz
  cases v with
  | aref lv t n =>
    dsimp only
    rw [wt_ob]
    cases s.ob lv t with
    | none => rfl
    | some ob =>
      cases ob with
      | arr fz sz l =>
        cases fz
        · exact wt_setOb _ _ _
        · rfl
      | _ => rfl
  | _ => rfl
theorem wt_load {tk : Bool} {t : TypeId} {u : V} : vLoad P (wt s t2) tk t u = (vLoad P s tk t u).map fun r => (r.1, wt r.2 t2) := by
  unfold vLoad
  cases u with
  | ptr lv u off =>
    dsimp only
    rw [wt_ob]
    cases s.ob lv u with
    | none => rfl
    | some ob =>
      cases ob with
      | box cs =>
        dsimp only
        split
        · cases tk
          · rfl
          · simp only [if_true, wt_setOb, Option.map]
        · rfl
      | _ => rfl
  | imp l => dsimp only; split <;> rfl
  | eptr lv u i sz =>
    dsimp only
    rw [wt_ob]
    cases s.ob lv u with
    | none => rfl
    | some ob =>
      cases ob with
      | arr fz sz' l => dsimp only; split <;> rfl
      | dir sz' l => dsimp only; split <;> rfl
      | _ => rfl
  | _ => rfl
theorem wt_tree (v : V) : Ev.tree (wt s t2) v = Ev.tree s v := by
  unfold Ev.tree
  split <;> rfl
theorem wt_treeSt {ty : TypeId} {x : Operand} (h : (wt s t2).see P ty x = s.see P ty x) : (wt s t2).tree P ty x = (s.tree P ty x).map fun r => (r.1, wt r.2 t2) := by
  unfold St.tree
  dsimp only
  rw [h, wt_frz, wt_tree]
  cases Ev.tree (s.frz (s.see P ty x)) (s.see P ty x) <;> rfl
theorem wt_arg {ty : TypeId} {x : Operand} (h : (wt s t2).see P ty x = s.see P ty x) : (wt s t2).arg P ty x = (s.arg P ty x).map fun r => (r.1, wt r.2 t2) := by
  have := wt_treeSt (s := s) (t2 := t2) (P := P) h
  unfold St.arg
  rw [h]
  split
  · rfl
  · rfl
  · rfl
  · exact this
theorem arg_t {ty : TypeId} {x : Operand} {v : V} {s1 : St} (h : s.arg P ty x = some (v, s1)) : s1.t = s.t := by
  unfold St.arg at h
  split at h
  · obtain ⟨_, rfl⟩ := Prod.mk.inj (Option.some.inj h); rfl
  · obtain ⟨_, rfl⟩ := Prod.mk.inj (Option.some.inj h); rfl
  · obtain ⟨_, rfl⟩ := Prod.mk.inj (Option.some.inj h); rfl
  · unfold St.tree at h
    obtain ⟨_, _, he⟩ := Option.map_eq_some_iff.1 h
    obtain ⟨_, rfl⟩ := Prod.mk.inj he
    exact frz_t _
theorem args_t : ∀ (xs : List (TypeId × Operand)) {s s1 : St} {vs : List V}, St.args P s xs = some (vs, s1) → s1.t = s.t := by
  intro xs
  induction xs with
  | nil => intro s s1 vs h; obtain ⟨_, rfl⟩ := Prod.mk.inj (Option.some.inj h); rfl
  | cons x xs ih =>
    intro s s1 vs h
    unfold St.args at h
    split at h
    · rename_i h1
      split at h
      · rename_i h2
        obtain ⟨_, rfl⟩ := Prod.mk.inj (Option.some.inj h)
        exact (ih h2).trans (arg_t h1)
      · cases h
    · cases h
theorem wt_args : ∀ (xs : List (TypeId × Operand)) {s : St}, (∀ i, .tmp i ∈ xs.map Prod.snd → t2 i = s.t i) → St.args P (wt s t2) xs = (St.args P s xs).map fun r => (r.1, wt r.2 t2) := by
  intro xs
  induction xs with
  | nil => intro s _; rfl
  | cons x xs ih =>
    intro s h
    obtain ⟨ty, x⟩ := x
    unfold St.args
    rw [wt_arg (see_alt fun i hi => h i (by rw [← hi]; exact List.mem_cons_self))]
    cases ha : s.arg P ty x with
    | none => rfl
    | some r =>
      obtain ⟨v, s1⟩ := r
      dsimp only [Option.map]
      rw [ih (s := s1) fun i hi => (h i (List.mem_cons_of_mem _ hi)).trans (by rw [arg_t ha])]
      cases St.args P s1 xs <;> rfl

theorem lval_ev (h : ∀ f a b, o.op ≠ .call { callee := .value f, args := a, argTypes := b }) : lval E ev o s = (evV E.P (E.H s.f) (o.dst.getD 0) o.type o.op s).map (·.1) := by
  unfold lval
  split
  · rename_i e; exact absurd e (h _ _ _)
  · rfl
theorem put_inj {d : Nat} {v : V} {s1 : St} (h : s1 = s.put d (s1.t d)) : s1.b = s.b ∧ s1.o = s.o ∧ s1.r = s.r ∧ s1.f = s.f ∧ s1.n = s.n := by
  rw [h]; exact ⟨rfl, rfl, rfl, rfl, rfl⟩
theorem callVal_alt {d : Nat} {v : V} {B : Nat → Option Ob} {O : List (Nat → Option Ob)} : callVal (some d) (wt s t2) (some { (wt s t2).put d v with b := B, o := O }) = callVal (some d) s (some { s.put d v with b := B, o := O }) := by
  unfold callVal
  dsimp only
  have e : ∀ s : St, ({ s.put d v with b := B, o := O } : St).t d = v := fun s => by show upd s.t d v d = v; simp [upd]
  rw [e, e]
  have key : ∀ s : St, ({ s.put d v with b := B, o := O } : St) = s.put d v ↔ B = s.b ∧ O = s.o := by
    intro s
    constructor
    · intro h; exact ⟨congrArg St.b h, congrArg St.o h⟩
    · rintro ⟨rfl, rfl⟩; rfl
  by_cases hc : B = s.b ∧ O = s.o
  · rw [if_pos ((key (wt s t2)).2 hc), if_pos ((key s).2 hc)]
  · rw [if_neg fun h => hc ((key (wt s t2)).1 h), if_neg fun h => hc ((key s).1 h)]
theorem wt_peekL (f g : V → Option V) (h : f = g) (l : List V) : peekL f l = peekL g l := by rw [h]
theorem wt_peekC : ∀ (n : Nat) (v : V), peekC (wt s t2) n v = peekC s n v := by
  intro n
  induction n with
  | zero => intro v; cases v <;> rfl
  | succ n ih =>
    intro v
    have e : peekC (wt s t2) n = peekC s n := funext ih
    cases v with
    | aref lv t k =>
      unfold peekC
      rw [wt_ob, e]
    | _ => rfl
theorem wt_peek {ty : TypeId} {x : Operand} (h : (wt s t2).see P ty x = s.see P ty x) : (wt s t2).peek P ty x = s.peek P ty x := by
  unfold St.peek
  rw [h]
  have e : peekC (wt s t2) 9 = peekC s 9 := funext (wt_peekC 9)
  rw [e]
theorem wt_peeks : ∀ (xs : List (TypeId × Operand)), (∀ i, .tmp i ∈ xs.map Prod.snd → t2 i = s.t i) → St.peeks (wt s t2) P xs = St.peeks s P xs := by
  intro xs
  induction xs with
  | nil => intro _; rfl
  | cons x xs ih =>
    intro h
    obtain ⟨ty, x⟩ := x
    unfold St.peeks
    rw [wt_peek (see_alt fun i hi => h i (by rw [← hi]; exact List.mem_cons_self)), ih fun i hi => h i (List.mem_cons_of_mem _ hi)]
theorem callB_val {d : Nat} {f : Operand} {args : Array Operand} {tys : Array TypeId} (hf : (wt s t2).see E.P 0 f = s.see E.P 0 f) (ha : ∀ i, .tmp i ∈ args.toList → t2 i = s.t i) : callVal (some d) (wt s t2) (evCallV E ev (callB E (some d) f args tys [] (wt s t2))) = callVal (some d) s (evCallV E ev (callB E (some d) f args tys [] s)) := by
  unfold callB
  rw [hf, wt_peeks _ fun i hi => ha i (by
    obtain ⟨x, hx, he⟩ := List.mem_map.1 hi
    have := (List.of_mem_zip hx).2
    rw [he] at this; exact this)]
  cases s.see E.P 0 f with
  | fn g caps =>
    cases caps with
    | cons _ _ => cases s.peeks E.P (tys.toList.zip args.toList) <;> rfl
    | nil =>
      cases s.peeks E.P (tys.toList.zip args.toList) with
      | none => rfl
      | some vs =>
        dsimp only
        show callVal (some d) (wt s t2) (evCallV E ev (if args.size = tys.size ∧ (some d).all (fun d => decide (d < s.n)) = true then _ else _)) = _
        split
        rotate_left
        · rfl
        show callVal (some d) (wt s t2) (match startS E g vs [] with | none => none | some (k0, s0) => match ev k0 s0 with | none => none | some r => some (backS (wt s t2) (true, false, true) (some d) r.1 r.2)) = callVal (some d) s (match startS E g vs [] with | none => none | some (k0, s0) => match ev k0 s0 with | none => none | some r => some (backS s (true, false, true) (some d) r.1 r.2))
        cases startS E g vs [] with
        | none => rfl
        | some x =>
          obtain ⟨k0, s0⟩ := x
          dsimp only
          cases ev k0 s0 with
          | none => rfl
          | some r => exact callVal_alt (s := s) (t2 := t2) (d := d) (v := finV (false, true) r.1) (B := s.b) (O := s.o)
  | _ => rfl
theorem lval_alt (hx : isL (E.H s.f) o = true) (hag : AgrO o s (wt s t2)) : lval E ev o (wt s t2) = lval E ev o s := by
  obtain ⟨dst, op, ty, pos, af, gd⟩ := o
  have hs := fun (x : Operand) hx ty => AgrO.see (P := E.P) (x := x) hag hx ty
  by_cases hcall : ∃ f args tys, op = .call { callee := .value f, args := args, argTypes := tys }
  · obtain ⟨f, args, tys, rfl⟩ := hcall
    cases dst with
    | none => simp [isL] at hx
    | some d =>
      unfold lval
      dsimp only
      by_cases hbr : inOpt (some d) (E.H s.f).brw = true
      · rw [if_pos hbr, if_pos (show inOpt (some d) (E.H (wt s t2).f).brw = true from hbr)]
        exact callB_val (hs f (by simp [Op.operands, Call.operands]) 0) fun i hi => hag i (by simp only [Op.operands, Call.operands]; simp; exact .inr (Array.mem_toList_iff.1 hi))
      rw [if_neg hbr, if_neg (show ¬ inOpt (some d) (E.H (wt s t2).f).brw = true from hbr)]
      have hall : (args.toList.all fun x => !isRef ((wt s t2).see E.P 0 x)) = args.toList.all fun x => !isRef (s.see E.P 0 x) := by
        rw [Bool.eq_iff_iff, List.all_eq_true, List.all_eq_true]
        constructor
        · intro h x hx; have := h x hx; rw [hs x (by simp [Op.operands, Call.operands]; exact .inr (Array.mem_toList_iff.1 hx))] at this; exact this
        · intro h x hx; rw [hs x (by simp [Op.operands, Call.operands]; exact .inr (Array.mem_toList_iff.1 hx))]; exact h x hx
      rw [hall]
      split
      rotate_left
      · rfl
      rename_i hd
      have h1 := zip_non (tys := tys) hd
      obtain ⟨h2, h3⟩ := treesV_alt (s2 := wt s t2) h1 fun i hi => hag i (by
        obtain ⟨x, hx, he⟩ := List.mem_map.1 hi
        have := (List.of_mem_zip hx).2
        rw [he] at this
        simp only [Op.operands, Call.operands]; simp; exact .inr (Array.mem_toList_iff.1 this))
      unfold callN
      rw [hs f (by simp [Op.operands, Call.operands]), args_non _ h1, args_non _ h2, h3]
      cases s.see E.P 0 f with
      | fn g caps =>
        cases mapOpt (fun x => Ev.tree s (s.see E.P x.1 x.2)) (tys.toList.zip args.toList) with
        | none => rfl
        | some vs =>
          dsimp only [Option.map_some]
          show callVal (some d) (wt s t2) (evCallV E ev (if args.size = tys.size ∧ (some d).all (fun d => decide (d < s.n)) = true then _ else _)) = _
          split
          rotate_left
          · rfl
          show callVal (some d) (wt s t2) (evCallV E ev (if ((vs ++ caps).any isRef || !caps.isEmpty) = true then .call g (vs ++ caps) (s.b :: s.o) (false, setF E g (some d) s, false) (some d) [] (wt s t2) else match E.orc g (vs ++ caps) with
            | some v => .go [] ((wt s t2).putO (some d) v)
            | none => .call g (vs ++ caps) [] (true, setF E g (some d) s, false) (some d) [] (wt s t2))) = _
          split
          · show callVal (some d) (wt s t2) (match startS E g (vs ++ caps) (s.b :: s.o) with | none => none | some (k0, s0) => match ev k0 s0 with | none => none | some r => some (backS (wt s t2) (false, setF E g (some d) s, false) (some d) r.1 r.2)) = callVal (some d) s (match startS E g (vs ++ caps) (s.b :: s.o) with | none => none | some (k0, s0) => match ev k0 s0 with | none => none | some r => some (backS s (false, setF E g (some d) s, false) (some d) r.1 r.2))
            cases startS E g (vs ++ caps) (s.b :: s.o) with
            | none => rfl
            | some x =>
              obtain ⟨k0, s0⟩ := x
              dsimp only
              cases ev k0 s0 with
              | none => rfl
              | some r => exact callVal_alt
          · cases E.orc g (vs ++ caps) with
            | some v => exact callVal_alt (s := s) (t2 := t2) (d := d) (v := v) (B := s.b) (O := s.o)
            | none =>
              show callVal (some d) (wt s t2) (match startS E g (vs ++ caps) [] with | none => none | some (k0, s0) => match ev k0 s0 with | none => none | some r => some (backS (wt s t2) (true, setF E g (some d) s, false) (some d) r.1 r.2)) = callVal (some d) s (match startS E g (vs ++ caps) [] with | none => none | some (k0, s0) => match ev k0 s0 with | none => none | some r => some (backS s (true, setF E g (some d) s, false) (some d) r.1 r.2))
              cases startS E g (vs ++ caps) [] with
              | none => rfl
              | some x =>
                obtain ⟨k0, s0⟩ := x
                dsimp only
                cases ev k0 s0 with
                | none => rfl
                | some r => exact callVal_alt (s := s) (t2 := t2) (d := d) (v := setl (setF E g (some d) s) r.1) (B := s.b) (O := s.o)
      | _ => rfl
  have hne : ∀ f a b, op ≠ .call { callee := .value f, args := a, argTypes := b } := fun f a b e => hcall ⟨f, a, b, e⟩
  rw [lval_ev (by exact hne), lval_ev (by exact hne)]
  show Option.map _ (evV E.P (E.H s.f) (dst.getD 0) ty op (wt s t2)) = Option.map _ (evV E.P (E.H s.f) (dst.getD 0) ty op s)
  cases dst with
  | none => simp [isL] at hx
  | some d =>
    cases op
    case load t a =>
      have htk : memN d (E.H s.f).take = false ∧ memN d (E.H s.f).make = false := by simpa [isL] using hx
      obtain ⟨htk, hmk⟩ := htk
      simp only [evV, Option.getD_some, htk, show memN d (E.H (wt s t2).f).make = false from hmk, hmk, Bool.false_eq_true, if_false]
      rw [hs a (by simp [Op.operands])]
      rw [wt_load]
      cases vLoad E.P s false t (s.see E.P 0 a) <;> rfl
    case lookup t m k ok =>
      simp only [evV]
      split
      · rw [hs m (by simp [Op.operands]), hs k (by simp [Op.operands]), fst_pair, fst_pair]
        rfl
      · rfl
    case call c =>
      obtain ⟨cal, args, tys⟩ := c
      cases cal with
      | value f => exact absurd rfl (hne _ _ _)
      | builtin b => simp [isL] at hx
      | _ => simp [isL] at hx
    all_goals (simp [isL] at hx; done)
theorem lval_step {v : V} (hx : isL (E.H s.f) o = true) (hin : inDst s o = true) (hv : lval E ev o s = some v) : stepOV E ev o s = some (s.setX (E.H s.f) o v) := by
  obtain ⟨dst, op, ty, pos, af, gd⟩ := o
  rw [setX_eq _ _ (cuts_nil fun u i e => by dsimp only at e; subst e; simp [isL] at hx; cases dst <;> simp [isL] at hx)]
  cases dst with
  | none => simp [isL] at hx
  | some d =>
    have hlt : d < s.n := by simpa [inDst] using hin
    by_cases hcall : ∃ f args tys, op = .call { callee := .value f, args := args, argTypes := tys }
    · obtain ⟨f, args, tys, rfl⟩ := hcall
      unfold lval at hv
      dsimp only at hv
      by_cases hbr : inOpt (some d) (E.H s.f).brw = true
      · rw [if_pos hbr] at hv
        unfold callVal at hv
        split at hv
        · rename_i s1 h1
          dsimp only at hv
          split at hv
          · rename_i he
            obtain rfl := Option.some.inj hv
            show evCallV E ev (callOp E (some d) f args tys [] s) = _
            unfold callOp
            rw [if_pos hbr, h1]
            exact congrArg some he
          · cases hv
        · cases hv
      rw [if_neg hbr] at hv
      split at hv
      · unfold callVal at hv
        split at hv
        · rename_i s1 h1
          dsimp only at hv
          split at hv
          · rename_i he
            obtain rfl := Option.some.inj hv
            show evCallV E ev (callOp E (some d) f args tys [] s) = _
            have hnb0 : memN d (E.H s.f).brw = false := by simpa [inOpt] using hbr
            obtain ⟨hnb, hnl⟩ : memN d (E.H s.f).brw = false ∧ memN d (E.H s.f).lend = false := by
              have := hx
              simp [isL, hnb0] at this
              exact ⟨hnb0, this.2⟩
            have hnb' : inOpt (some d) (E.H s.f).brw = false := hnb
            have hnl' : inOpt (some d) (E.H s.f).lend = false := hnl
            rw [callOp_N hnb' hnl']
            rw [h1]
            exact congrArg some he
          · cases hv
        · cases hv
      · cases hv
    have hne : ∀ f a b, op ≠ .call { callee := .value f, args := a, argTypes := b } := fun f a b e => hcall ⟨f, a, b, e⟩
    rw [lval_ev (by exact hne)] at hv
    obtain ⟨⟨v', s1⟩, hev, rfl⟩ := Option.map_eq_some_iff.1 hv
    have fin : s1 = s → evOp E.P (E.H s.f) ⟨some d, op, ty, pos, af, gd⟩ s = some (s.put d v') := by
      rintro rfl
      unfold evOp
      dsimp only
      rw [if_pos hlt]
      show Option.map _ (evV E.P (E.H s1.f) d ty op s1) = _
      rw [show evV E.P (E.H s1.f) d ty op s1 = some (v', s1) from hev]
      rfl
    cases op
    case load t a =>
      have htk : memN d (E.H s.f).take = false ∧ memN d (E.H s.f).make = false := by simpa [isL] using hx
      obtain ⟨htk, hmk⟩ := htk
      refine fin ?_
      simp only [evV, Option.getD_some, htk, hmk, Bool.false_eq_true, if_false] at hev
      unfold vLoad at hev
      split at hev
      · split at hev
        · simp only [Bool.false_eq_true, if_false] at hev
          split at hev
          · exact ((Prod.mk.inj (Option.some.inj hev)).2).symm
          · cases hev
        · cases hev
      · split at hev
        · exact ((Prod.mk.inj (Option.some.inj hev)).2).symm
        · cases hev
      · split at hev
        · split at hev
          · exact ((Prod.mk.inj (Option.some.inj hev)).2).symm
          · cases hev
        · split at hev
          · exact ((Prod.mk.inj (Option.some.inj hev)).2).symm
          · cases hev
        · cases hev
      · cases hev
    case lookup t m k ok =>
      refine fin ?_
      simp only [evV] at hev
      split at hev
      · exact pk' hev
      · cases hev
    case call c =>
      obtain ⟨cal, args, tys⟩ := c
      cases cal with
      | value f => exact absurd rfl (hne _ _ _)
      | builtin b => simp [isL] at hx
      | _ => simp [isL] at hx
    all_goals (simp [isL] at hx; done)
theorem guard_alt {all : Array Oper} (h : ∀ j want d, o.guard = some (j, want) → (all[j]?).bind (·.dst) = some d → t2 d = s.t d) {s2 : St} (hs : s2.t = t2) : guardS all o s2 = guardS all o s := by
  unfold guardS
  cases hg : o.guard with
  | none => rfl
  | some jw =>
    obtain ⟨j, want⟩ := jw
    dsimp only
    have : ((all[j]?).bind (·.dst)).map s2.t = ((all[j]?).bind (·.dst)).map s.t := by
      cases hd : (all[j]?).bind (·.dst) with
      | none => rfl
      | some d =>
        simp only [Option.map]
        rw [hs, h j want d hg hd]
    rw [this]
theorem upd_mix {s3 : St} {d : Nat} {v : V} (D : List Nat) (hD : memN d D = true) (h3 : ∀ x, memN x D = true → x ≠ d → t2 x = s3.t x) : upd t2 d v = fun x => if memN x D then (s3.put d v).t x else t2 x := by
  funext x
  show upd t2 d v x = if memN x D then upd s3.t d v x else t2 x
  unfold upd
  by_cases e : x = d
  · subst e; simp [hD]
  · simp only [if_neg e]
    split
    · rename_i h; exact h3 x h e
    · rfl
theorem wt_callOp {d : Nat} {f : Operand} {args : Array Operand} {tys : Array TypeId} (hf : (wt s t2).see E.P 0 f = s.see E.P 0 f) (ha : ∀ i, .tmp i ∈ args.toList → t2 i = s.t i) :
    (∃ g vs outer plain s1, callN E (some d) f args tys [] s = .call g vs outer plain (some d) [] s1 ∧ callN E (some d) f args tys [] (wt s t2) = .call g vs outer plain (some d) [] (wt s1 t2) ∧ s1.t = s.t) ∨
    (∃ s1 v, callN E (some d) f args tys [] s = .go [] (s1.put d v) ∧ callN E (some d) f args tys [] (wt s t2) = .go [] ((wt s1 t2).put d v) ∧ s1.t = s.t) ∨ callN E (some d) f args tys [] s = .fail := by
  unfold callN
  rw [hf, wt_args _ fun i hi => ha i (by
    obtain ⟨x, hx, he⟩ := List.mem_map.1 hi
    have := (List.of_mem_zip hx).2
    rw [he] at this; exact this)]
  cases s.see E.P 0 f with
  | fn g caps =>
    cases hargs : s.args E.P (tys.toList.zip args.toList) with
    | none => exact .inr (.inr rfl)
    | some r =>
      obtain ⟨vs, s1⟩ := r
      have ht := args_t _ hargs
      dsimp only [Option.map]
      by_cases hc : args.size = tys.size ∧ (some d).all (fun d => decide (d < s.n)) = true
      · have hc2 : args.size = tys.size ∧ (some d).all (fun d => decide (d < (wt s t2).n)) = true := hc
        rw [if_pos hc, if_pos hc2]
        cases hb : (vs ++ caps).any isRef || !caps.isEmpty with
        | true => exact .inl ⟨_, _, _, _, s1, rfl, rfl, ht⟩
        | false =>
          simp only [Bool.false_eq_true, if_false]
          cases ho : E.orc g (vs ++ caps) with
          | some v => exact .inr (.inl ⟨s1, v, rfl, rfl, ht⟩)
          | none => exact .inl ⟨_, _, _, _, s1, rfl, rfl, ht⟩
      · have hc2 : ¬(args.size = tys.size ∧ (some d).all (fun d => decide (d < (wt s t2).n)) = true) := hc
        rw [if_neg hc]
        exact .inr (.inr rfl)
  | _ => exact .inr (.inr rfl)
theorem vLoadM_alt {d : Nat} {t : TypeId} {u v : V} {s3 : St} (h : vLoadM E.P s d t u = some (v, s3)) : vLoadM E.P (wt s t2) d t u = some (v, wt s3 t2) ∧ s3.t = s.t := by
  unfold vLoadM at h ⊢
  cases u with
  | ptr lv u off =>
    dsimp only at h ⊢
    by_cases hlv : lv = s.lv
    · rw [if_pos hlv] at h
      rw [if_pos (show lv = (wt s t2).lv from hlv)]
      rw [show (wt s t2).b = s.b from rfl]
      cases hb : s.b u with
      | none => rw [hb] at h; cases h
      | some ob =>
        rw [hb] at h
        cases ob with
        | box cs =>
          dsimp only at h ⊢
          split at h
          · rename_i hc
            rw [if_pos hc]
            generalize cs.getD off .undef = c at h
            cases c with
            | uq sz l =>
              cases l with
              | nil => cases h
              | cons x l =>
                dsimp only at h ⊢
                split at h
                · rename_i hf
                  rw [if_pos hf]
                  split at h
                  · rename_i hd
                    obtain ⟨rfl, rfl⟩ := Prod.mk.inj (Option.some.inj h)
                    exact ⟨rfl, rfl⟩
                  · cases h
                · cases h
            | _ => cases h
          · cases h
        | _ => cases h
    · rw [if_neg hlv] at h; cases h
  | _ => cases h
theorem vLoad_alt {tk : Bool} {t : TypeId} {u v : V} {s3 : St} (h : vLoad E.P s tk t u = some (v, s3)) : vLoad E.P (wt s t2) tk t u = some (v, wt s3 t2) ∧ s3.t = s.t := by
  unfold vLoad at h ⊢
  cases u with
  | ptr lv u off =>
    dsimp only at h ⊢
    rw [wt_ob]
    cases ho : s.ob lv u with
    | none => rw [ho] at h; cases h
    | some ob =>
      rw [ho] at h
      cases ob with
      | box cs =>
        dsimp only at h ⊢
        split at h
        · rename_i hc
          rw [if_pos hc]
          cases tk with
          | true =>
            simp only [if_true] at h ⊢
            obtain ⟨rfl, rfl⟩ := Prod.mk.inj (Option.some.inj h)
            exact ⟨by rw [wt_setOb], setOb_t ..⟩
          | false =>
            simp only [Bool.false_eq_true, if_false] at h ⊢
            obtain ⟨rfl, rfl⟩ := Prod.mk.inj (Option.some.inj h)
            exact ⟨rfl, rfl⟩
        · cases h
      | _ => cases h
  | imp l =>
    dsimp only at h ⊢
    split at h
    · rename_i hc
      rw [if_pos hc]
      obtain ⟨rfl, rfl⟩ := Prod.mk.inj (Option.some.inj h)
      exact ⟨rfl, rfl⟩
    · cases h
  | eptr lv u i sz =>
    dsimp only at h ⊢
    rw [wt_ob]
    cases ho : s.ob lv u with
    | none => rw [ho] at h; cases h
    | some ob =>
      rw [ho] at h
      cases ob with
      | arr fz sz' l =>
        dsimp only at h ⊢
        split at h
        · rename_i hc
          rw [if_pos hc]
          obtain ⟨rfl, rfl⟩ := Prod.mk.inj (Option.some.inj h)
          exact ⟨rfl, rfl⟩
        · cases h
      | dir sz' l =>
        dsimp only at h ⊢
        split at h
        · rename_i hc
          rw [if_pos hc]
          obtain ⟨rfl, rfl⟩ := Prod.mk.inj (Option.some.inj h)
          exact ⟨rfl, rfl⟩
        · cases h
      | _ => cases h
  | _ => cases h
/-- what turns objects is told by what it looks at -/
theorem wt_mkCells {f : St → Nat → V → Option (V × St)} (hf : ∀ s id v, f (wt s t2) id v = (f s id v).map fun r => (r.1, wt r.2 t2)) (M id : Nat) : ∀ (l : List V) (s : St) (k : Nat), mkCells f M id (wt s t2) k l = (mkCells f M id s k l).map fun r => (r.1, wt r.2 t2) := by
  intro l
  induction l with
  | nil => intro s k; rfl
  | cons c l ih =>
    intro s k
    unfold mkCells
    rw [hf]
    cases f s (id + (k + 1) * M) c with
    | none => rfl
    | some r =>
      obtain ⟨c', s1⟩ := r
      dsimp only [Option.map]
      rw [ih]
      cases mkCells f M id s1 (k + 1) l <;> rfl
theorem wt_mkEls {f : St → Nat → V → Option (V × St)} (hf : ∀ s id v, f (wt s t2) id v = (f s id v).map fun r => (r.1, wt r.2 t2)) (M id sz : Nat) : ∀ (l : List V) (s : St) (i : Nat), mkEls f M id sz (wt s t2) i l = (mkEls f M id sz s i l).map fun r => (r.1, wt r.2 t2) := by
  intro l
  induction l with
  | nil => intro s i; rfl
  | cons e l ih =>
    intro s i
    unfold mkEls
    rw [wt_mkCells hf]
    cases mkCells f M id s (i * sz) e.flat with
    | none => rfl
    | some r =>
      obtain ⟨cs, s1⟩ := r
      dsimp only [Option.map]
      rw [ih]
      cases mkEls f M id sz s1 (i + 1) l <;> rfl
theorem wt_mkC : ∀ (n : Nat) (s : St) (id : Nat) (v : V), mkC n (wt s t2) id v = (mkC n s id v).map fun r => (r.1, wt r.2 t2) := by
  intro n
  induction n with
  | zero =>
    intro s id v
    cases v with
    | uq sz l => cases l with
      | nil => rfl
      | cons x l => unfold mkC; split <;> rfl
    | _ => unfold mkC; split <;> rfl
  | succ n ih =>
    intro s id v
    cases v with
    | uq sz l =>
      cases l with
      | nil => rfl
      | cons x l =>
        unfold mkC
        rw [wt_mkEls ih]
        cases mkEls (mkC n) (4294967296 ^ (n + 1)) id sz s 0 (x :: l) with
        | none => rfl
        | some r =>
          obtain ⟨l', s1⟩ := r
          dsimp only [Option.map]
          show (match s1.b id with | none => _ | some _ => _) = _
          cases s1.b id <;> rfl
    | _ => unfold mkC; split <;> rfl
theorem wt_uMake (s : St) (d : Nat) (v : V) : uMake (wt s t2) d v = (uMake s d v).map fun r => (r.1, wt r.2 t2) := by
  cases v with
  | uq sz l =>
    cases l with
    | nil => rfl
    | cons x l =>
      unfold uMake
      dsimp only
      split
      · show (match s.b d with | none => _ | some _ => _) = _
        cases s.b d <;> rfl
      · exact wt_mkC ..
  | nw l =>
    unfold uMake
    dsimp only
    split
    · show (match s.b d with | none => _ | some _ => _) = _
      cases s.b d <;> rfl
    · rfl
  | _ => rfl
theorem wt_uMakes : ∀ (l : List V) (s : St) (d : Nat), uMakes (wt s t2) d l = (uMakes s d l).map fun r => (r.1, wt r.2 t2) := by
  intro l
  induction l with
  | nil => intro s d; rfl
  | cons c l ih =>
    intro s d
    unfold uMakes
    rw [ih]
    cases uMakes s (d + 1) l with
    | none => rfl
    | some r =>
      obtain ⟨l', s1⟩ := r
      dsimp only [Option.map]
      rw [wt_uMake]
      cases uMake s1 d c <;> rfl
theorem uMakes_t {l l' : List V} {s s1 : St} {d : Nat} (h : uMakes s d l = some (l', s1)) : s1.t = s.t := by
  have e := wt_uMakes (t2 := s.t) l s d
  have e2 : wt s s.t = s := rfl
  rw [e2, h] at e
  have := congrArg (fun x : Option (List V × St) => x.map fun r => r.2.t) e
  exact Option.some.inj this
theorem wt_uMakeF (s : St) (d : Nat) (v : V) : uMakeF (wt s t2) d v = (uMakeF s d v).map fun r => (r.1, wt r.2 t2) := by
  unfold uMakeF
  split
  · split
    · exact wt_uMake ..
    · rfl
  · exact wt_uMake ..
theorem wt_uMakesF : ∀ (l : List V) (s : St) (d : Nat), uMakesF (wt s t2) d l = (uMakesF s d l).map fun r => (r.1, wt r.2 t2) := by
  intro l
  induction l with
  | nil => intro s d; rfl
  | cons c l ih =>
    intro s d
    unfold uMakesF
    rw [ih]
    cases uMakesF s (d + 1) l with
    | none => rfl
    | some r =>
      obtain ⟨l', s1⟩ := r
      dsimp only [Option.map]
      rw [wt_uMakeF]
      cases uMakeF s1 d c <;> rfl
theorem uMakesF_t {l l' : List V} {s s1 : St} {d : Nat} (h : uMakesF s d l = some (l', s1)) : s1.t = s.t := by
  have e := wt_uMakesF (t2 := s.t) l s d
  have e2 : wt s s.t = s := rfl
  rw [e2, h] at e
  have := congrArg (fun x : Option (List V × St) => x.map fun r => r.2.t) e
  exact Option.some.inj this
theorem wt_uMakeN (s : St) (d : Nat) (v : V) : uMakeN (wt s t2) d v = (uMakeN s d v).map fun r => (r.1, wt r.2 t2) := by
  unfold uMakeN
  cases v with
  | uq sz l =>
    cases l with
    | nil => rfl
    | cons x l =>
      dsimp only
      split
      · rfl
      · split
        · show (match s.b d with | none => _ | some _ => _) = _
          cases s.b d <;> rfl
        · rfl
  | _ => rfl
theorem wt_uMakesN : ∀ (l : List V) (s : St) (d : Nat), uMakesN (wt s t2) d l = (uMakesN s d l).map fun r => (r.1, wt r.2 t2) := by
  intro l
  induction l with
  | nil => intro s d; rfl
  | cons c l ih =>
    intro s d
    unfold uMakesN
    rw [ih]
    cases uMakesN s (d + 1) l with
    | none => rfl
    | some r =>
      obtain ⟨l', s1⟩ := r
      dsimp only [Option.map]
      rw [wt_uMakeN]
      cases uMakeN s1 d c <;> rfl
theorem uMakesN_t {l l' : List V} {s s1 : St} {d : Nat} (h : uMakesN s d l = some (l', s1)) : s1.t = s.t := by
  have e := wt_uMakesN (t2 := s.t) l s d
  have e2 : wt s s.t = s := rfl
  rw [e2, h] at e
  have := congrArg (fun x : Option (List V × St) => x.map fun r => r.2.t) e
  exact Option.some.inj this
theorem stepW_alt {s1 : St} (hw : isW (E.H s.f) o = true) (hst : stepOV E ev o s = some s1) (hag : AgrO o s (wt s t2)) :
    stepOV E ev o (wt s t2) = some (wt s1 fun x => if memN x (chg (E.H s.f) o) then s1.t x else t2 x) ∧ ∀ x, memN x (chg (E.H s.f) o) = false → s1.t x = s.t x := by
  obtain ⟨dst, op, ty, pos, af, gd⟩ := o
  have hs := fun (x : Operand) hx ty => AgrO.see (P := E.P) (x := x) hag hx ty
  cases op
  case alloc e =>
    cases dst with
    | none => simp [isW] at hw
    | some d =>
      have hst' : evOp E.P (E.H s.f) ⟨some d, .alloc e, ty, pos, af, gd⟩ s = some s1 := hst
      show evOp E.P (E.H s.f) ⟨some d, .alloc e, ty, pos, af, gd⟩ (wt s t2) = _ ∧ _
      unfold evOp at hst' ⊢
      dsimp only at hst' ⊢
      split at hst'
      · rename_i hlt
        have hlt2 : d < (wt s t2).n := hlt
        rw [if_pos hlt2]
        obtain ⟨⟨v, s3⟩, h1, rfl⟩ := Option.map_eq_some_iff.1 hst'
        simp only [evV] at h1 ⊢
        have e0 : (wt s t2).b = s.b := rfl
        have e1 : (wt s t2).lv = s.lv := rfl
        rw [e0, e1]
        split at h1
        · rename_i z hb hz
          split at h1
          · rename_i hl
            obtain ⟨rfl, rfl⟩ := Prod.mk.inj (Option.some.inj h1)
            rw [if_pos hl]
            refine ⟨?_, fun x hx => ?_⟩
            · simp only [Option.map, Option.some.injEq]
              show ({ t := upd t2 d _, b := _, o := _, r := _, f := _, n := _ } : St) = _
              rw [upd_mix (s3 := s) [d] (by simp [memN]) (fun x hx hne => by simp [memN, hne] at hx)]
              rfl
            · show upd s.t d _ x = s.t x
              unfold upd
              have : x ≠ d := by rintro rfl; simp [chg, drops, memN] at hx
              rw [if_neg this]
          · cases h1
        · cases h1
      · cases hst'
  case load t a =>
    cases dst with
    | none => simp [isW] at hw
    | some d =>
      have hch : chg (E.H s.f) ⟨some d, .load t a, ty, pos, af, gd⟩ = [d] := by simp [chg, drops, cuts]
      rw [hch]
      have hst' : evOp E.P (E.H s.f) ⟨some d, .load t a, ty, pos, af, gd⟩ s = some s1 := hst
      show evOp E.P (E.H s.f) ⟨some d, .load t a, ty, pos, af, gd⟩ (wt s t2) = _ ∧ _
      unfold evOp at hst' ⊢
      dsimp only at hst' ⊢
      split at hst'
      · rename_i hlt
        have hlt2 : d < (wt s t2).n := hlt
        rw [if_pos hlt2]
        obtain ⟨⟨v, s3⟩, h1, rfl⟩ := Option.map_eq_some_iff.1 hst'
        simp only [evV] at h1 ⊢
        rw [hs a (by simp [Op.operands]) 0]
        have alt : (if memN d (E.H s.f).make = true then vLoadM E.P (wt s t2) d t (s.see E.P 0 a) else vLoad E.P (wt s t2) (memN d (E.H s.f).take) t (s.see E.P 0 a)) = some (v, wt s3 t2) ∧ s3.t = s.t := by
          by_cases hm : memN d (E.H s.f).make = true
          · rw [if_pos hm] at h1
            rw [if_pos hm]
            exact vLoadM_alt h1
          · rw [if_neg hm] at h1
            rw [if_neg hm]
            exact vLoad_alt h1
        obtain ⟨k1, k2⟩ := alt
        rw [k1]
        refine ⟨?_, fun x hx => ?_⟩
        · simp only [Option.map, Option.some.injEq]
          show ({ t := upd t2 d v, b := s3.b, o := s3.o, r := s3.r, f := s3.f, n := s3.n } : St) = _
          rw [upd_mix (s3 := s3) [d] (by simp [memN]) (fun x hx hne => by simp [memN, hne] at hx)]
          rfl
        · show upd s3.t d v x = s.t x
          unfold upd
          have : x ≠ d := by rintro rfl; simp [memN] at hx
          rw [if_neg this, k2]
      · cases hst'
  case store t x y =>
    cases dst with
    | some d => simp [isW] at hw
    | none =>
      have store : ∀ (mk : St → Nat → List V → Option (List V × St)), (∀ (l : List V) (s : St) (t2 : Nat → V) (d : Nat), mk (wt s t2) d l = (mk s d l).map fun r => (r.1, wt r.2 t2)) → (∀ {l l' : List V} {s s1 : St} {d : Nat}, mk s d l = some (l', s1) → s1.t = s.t) → uStoreM E.P mk s t y (s.see E.P 0 x) = some s1 →
          uStoreM E.P mk (wt s t2) t y (s.see E.P 0 x) = some (wt s1 fun z => if memN z (chg (E.H s.f) ⟨none, .store t x y, ty, pos, af, gd⟩) then s1.t z else t2 z) ∧ ∀ z, memN z (chg (E.H s.f) ⟨none, .store t x y, ty, pos, af, gd⟩) = false → s1.t z = s.t z := by
        intro mk mkw mkt hst'
        have hall : (wt s t2).all E.P t y = s.all E.P t y := all_alt fun i hi => hag i (by simp [Op.operands, hi])
        have hch : chg (E.H s.f) ⟨none, .store t x y, ty, pos, af, gd⟩ = tmpsOf [y] := by simp [chg, drops, cuts]
        rw [hch]
        have hyt : ∀ i, memN i (tmpsOf [y]) = true → t2 i = s.t i := by
          intro i hi
          cases y with
          | tmp j =>
            have : i = j := by simpa [tmpsOf, memN] using hi
            subst this
            exact hag i (by simp [Op.operands])
          | _ => simp [tmpsOf, memN] at hi
        have e2 : (wt s t2).drop y = wt (s.drop y) (fun x => if memN x (tmpsOf [y]) then (t2 x).view else t2 x) := by rw [drop_eq, drop_eq]; rfl
        generalize s.see E.P 0 x = u at hst'
        unfold uStoreM at hst' ⊢
        cases u with
        | ptr lv u off =>
          dsimp only at hst' ⊢
          rw [hall]
          by_cases hc : lv = s.lv ∧ (s.all E.P t y).flat.length = szOf E.P t
          · rw [if_pos hc] at hst'
            rw [if_pos (show lv = (wt s t2).lv ∧ (s.all E.P t y).flat.length = szOf E.P t from hc)]
            have key : (match mk (s.drop y) (s.n + 64 * u + off) (s.all E.P t y).flat with
              | some (cs', s1) => match s1.ob lv u with
                | some (.box cs) => if off + szOf E.P t ≤ cs.length ∧ szOf E.P t ≠ 0 ∧ cs'.all cellOk ∧ cs'.all (lowV lv) then some (s1.setOb lv u (.box (setL cs off cs'))) else none
                | _ => none
              | none => none) = some s1 → (match mk ((wt s t2).drop y) ((wt s t2).n + 64 * u + off) (s.all E.P t y).flat with
              | some (cs', s1) => match s1.ob lv u with
                | some (.box cs) => if off + szOf E.P t ≤ cs.length ∧ szOf E.P t ≠ 0 ∧ cs'.all cellOk ∧ cs'.all (lowV lv) then some (s1.setOb lv u (.box (setL cs off cs'))) else none
                | _ => none
              | none => none) = some (wt s1 fun x => if memN x (tmpsOf [y]) then s1.t x else t2 x) ∧ ∀ x, memN x (tmpsOf [y]) = false → s1.t x = s.t x := by
              intro hk
              rw [e2, show (wt s t2).n = s.n from rfl, mkw]
              cases hm : mk (s.drop y) (s.n + 64 * u + off) (s.all E.P t y).flat with
              | none => rw [hm] at hk; cases hk
              | some r =>
                obtain ⟨cs', s3⟩ := r
                rw [hm] at hk
                have h3 : s3.t = (s.drop y).t := mkt hm
                dsimp only [Option.map] at hk ⊢
                rw [wt_ob]
                split at hk
                · rename_i cs ho
                  split at hk
                  · rename_i hc2
                    rw [if_pos hc2]
                    obtain rfl := Option.some.inj hk
                    refine ⟨?_, fun z hz => ?_⟩
                    · rw [wt_setOb, setOb_t, h3, drop_t]
                      congr 2
                      funext z
                      by_cases hz : memN z (tmpsOf [y]) = true
                      · simp [hz, hyt z hz]
                      · simp [hz]
                    · rw [setOb_t, h3, drop_t]
                      dsimp only
                      rw [hz]; rfl
                  · cases hk
                · cases hk
            split at hst'
            · cases hst'
            · cases hst'
            · exact key hst'
          · rw [if_neg hc] at hst'; cases hst'
        | _ => cases hst'
      by_cases hmk1 : isTmpIn (E.H s.f).make x = true
      · have hst' : uStoreM E.P uMakes s t y (s.see E.P 0 x) = some s1 := by
          have h0 : evU E.P (E.H s.f) (.store t x y) s = some s1 := hst
          simp only [evU, hmk1, if_true] at h0
          exact h0
        show evU E.P (E.H (wt s t2).f) (.store t x y) (wt s t2) = _ ∧ _
        simp only [evU, show isTmpIn (E.H (wt s t2).f).make x = true from hmk1, if_true]
        rw [hs x (by simp [Op.operands])]
        exact store uMakes (fun l s t2 d => wt_uMakes l s d) (fun h => uMakes_t h) hst'
      by_cases hmk3 : isTmpF (E.H s.f).make x = true
      · have hmk0 : isTmpIn (E.H s.f).make x = false := by simpa using hmk1
        have hst' : uStoreM E.P uMakesF s t y (s.see E.P 0 x) = some s1 := by
          have h0 : evU E.P (E.H s.f) (.store t x y) s = some s1 := hst
          simp only [evU, hmk0, hmk3, if_true, Bool.false_eq_true, if_false] at h0
          exact h0
        show evU E.P (E.H (wt s t2).f) (.store t x y) (wt s t2) = _ ∧ _
        simp only [evU, show isTmpIn (E.H (wt s t2).f).make x = false from hmk0, show isTmpF (E.H (wt s t2).f).make x = true from hmk3, if_true, Bool.false_eq_true, if_false]
        rw [hs x (by simp [Op.operands])]
        exact store uMakesF (fun l s t2 d => wt_uMakesF l s d) (fun h => uMakesF_t h) hst'
      have hmk4 : isTmpF (E.H s.f).make x = false := by simpa using hmk3
      by_cases hmk5 : isTmpN (E.H s.f).make x = true
      · have hmk0 : isTmpIn (E.H s.f).make x = false := by simpa using hmk1
        have hst' : uStoreM E.P uMakesN s t y (s.see E.P 0 x) = some s1 := by
          have h0 : evU E.P (E.H s.f) (.store t x y) s = some s1 := hst
          simp only [evU, hmk0, hmk4, hmk5, if_true, Bool.false_eq_true, if_false] at h0
          exact h0
        show evU E.P (E.H (wt s t2).f) (.store t x y) (wt s t2) = _ ∧ _
        simp only [evU, show isTmpIn (E.H (wt s t2).f).make x = false from hmk0, show isTmpF (E.H (wt s t2).f).make x = false from hmk4, show isTmpN (E.H (wt s t2).f).make x = true from hmk5, if_true, Bool.false_eq_true, if_false]
        rw [hs x (by simp [Op.operands])]
        exact store uMakesN (fun l s t2 d => wt_uMakesN l s d) (fun h => uMakesN_t h) hst'
      have hmk6 : isTmpN (E.H s.f).make x = false := by simpa using hmk5
      have hmk : isTmpIn (E.H s.f).make x = false := by simpa using hmk1
      have hmk2 : isTmpIn (E.H (wt s t2).f).make x = false := hmk
      have hst' : uStore E.P s t y (s.see E.P 0 x) = some s1 := by
        have h0 : evU E.P (E.H s.f) (.store t x y) s = some s1 := hst
        simp only [evU, hmk, hmk4, hmk6, Bool.false_eq_true, if_false] at h0
        exact h0
      show evU E.P (E.H (wt s t2).f) (.store t x y) (wt s t2) = _ ∧ _
      simp only [evU, hmk2, show isTmpF (E.H (wt s t2).f).make x = false from hmk4, show isTmpN (E.H (wt s t2).f).make x = false from hmk6, Bool.false_eq_true, if_false]
      rw [hs x (by simp [Op.operands])]
      have hall : (wt s t2).all E.P t y = s.all E.P t y := all_alt fun i hi => hag i (by simp [Op.operands, hi])
      have hch : chg (E.H s.f) ⟨none, .store t x y, ty, pos, af, gd⟩ = tmpsOf [y] := by simp [chg, drops, cuts]
      rw [hch]
      have hyt : ∀ i, memN i (tmpsOf [y]) = true → t2 i = s.t i := by
        intro i hi
        cases y with
        | tmp j =>
          have : i = j := by simpa [tmpsOf, memN] using hi
          subst this
          exact hag i (by simp [Op.operands])
        | _ => simp [tmpsOf, memN] at hi
      generalize s.see E.P 0 x = u at hst'
      unfold uStore at hst' ⊢
      cases u with
      | ptr lv u off =>
        dsimp only at hst' ⊢
        rw [wt_ob, hall]
        cases ho : s.ob lv u with
        | none => rw [ho] at hst'; cases hst'
        | some ob =>
          rw [ho] at hst'
          cases ob with
          | box cs =>
            dsimp only at hst' ⊢
            split at hst'
            · rename_i hc
              rw [if_pos hc]
              have fin : some ((s.drop y).setOb lv u (.box (setL cs off (s.all E.P t y).flat))) = some s1 → some (((wt s t2).drop y).setOb lv u (.box (setL cs off (s.all E.P t y).flat))) = some (wt s1 fun x => if memN x (tmpsOf [y]) then s1.t x else t2 x) ∧ ∀ x, memN x (tmpsOf [y]) = false → s1.t x = s.t x := by
                intro h
                obtain rfl := Option.some.inj h
                have e2 : (wt s t2).drop y = wt (s.drop y) (fun x => if memN x (tmpsOf [y]) then (t2 x).view else t2 x) := by rw [drop_eq, drop_eq]; rfl
                refine ⟨?_, fun z hz => ?_⟩
                · rw [e2, wt_setOb, setOb_t, drop_t]
                  congr 2
                  funext z
                  by_cases hz : memN z (tmpsOf [y]) = true
                  · simp [hz, hyt z hz]
                  · simp [hz]
                · rw [setOb_t, drop_t]
                  dsimp only
                  rw [hz]; rfl
              split at hst'
              · cases hst'
              · cases hst'
              · rename_i h1 h2
                exact fin hst'
            · cases hst'
          | _ => cases hst'
      | eptr lv u i sz =>
        dsimp only at hst' ⊢
        have old : (match s.tree E.P t y with
          | some (v, s1) => match s1.ob lv u with
            | some (.arr false sz' l) => if sz = szOf E.P t ∧ sz' = sz ∧ v.flat.length = sz ∧ sz ≠ 0 ∧ i < l.length then some (s1.setOb lv u (.arr false sz (l.set i v))) else none
            | some (.dir sz' l) => if sz = szOf E.P t ∧ sz' = sz ∧ v.flat.length = sz ∧ sz ≠ 0 ∧ i < l.length then some (s1.setOb lv u (.dir sz (l.set i v))) else none
            | _ => none
          | none => none) = some s1 → (match (wt s t2).tree E.P t y with
          | some (v, s1) => match s1.ob lv u with
            | some (.arr false sz' l) => if sz = szOf E.P t ∧ sz' = sz ∧ v.flat.length = sz ∧ sz ≠ 0 ∧ i < l.length then some (s1.setOb lv u (.arr false sz (l.set i v))) else none
            | some (.dir sz' l) => if sz = szOf E.P t ∧ sz' = sz ∧ v.flat.length = sz ∧ sz ≠ 0 ∧ i < l.length then some (s1.setOb lv u (.dir sz (l.set i v))) else none
            | _ => none
          | none => none) = some (wt s1 fun x => if memN x (tmpsOf [y]) then s1.t x else t2 x) ∧ ∀ x, memN x (tmpsOf [y]) = false → s1.t x = s.t x := by
          clear hst'
          intro hst'
          rw [wt_treeSt (hs y (by simp [Op.operands]) t)]
          cases htr : s.tree E.P t y with
          | none => rw [htr] at hst'; cases hst'
          | some r =>
            obtain ⟨v, s3⟩ := r
            rw [htr] at hst'
            dsimp only [Option.map] at hst' ⊢
            have h3 : s3.t = s.t := by
              unfold St.tree at htr
              obtain ⟨_, _, he⟩ := Option.map_eq_some_iff.1 htr
              obtain ⟨_, rfl⟩ := Prod.mk.inj he
              exact frz_t _
            rw [wt_ob]
            cases ho : s3.ob lv u with
            | none => rw [ho] at hst'; cases hst'
            | some ob =>
              rw [ho] at hst'
              cases ob with
              | arr fz sz' l =>
                cases fz with
                | true => cases hst'
                | false =>
                  dsimp only at hst' ⊢
                  split at hst'
                  · rename_i hc
                    rw [if_pos hc]
                    obtain rfl := Option.some.inj hst'
                    refine ⟨?_, fun z _ => by rw [setOb_t, h3]⟩
                    rw [wt_setOb, setOb_t, h3]
                    congr 2
                    funext z
                    split
                    · rename_i hz; exact hyt z hz
                    · rfl
                  · cases hst'
              | dir sz' l =>
                dsimp only at hst' ⊢
                split at hst'
                · rename_i hc
                  rw [if_pos hc]
                  obtain rfl := Option.some.inj hst'
                  refine ⟨?_, fun z _ => by rw [setOb_t, h3]⟩
                  rw [wt_setOb, setOb_t, h3]
                  congr 2
                  funext z
                  split
                  · rename_i hz; exact hyt z hz
                  · rfl
                · cases hst'
              | _ => cases hst'
        rw [wt_ob, hall]
        cases ho : s.ob lv u with
        | none => rw [ho] at hst'; exact old hst'
        | some ob =>
          rw [ho] at hst'
          cases ob with
          | aru sz' l =>
            dsimp only at hst' ⊢
            split at hst'
            · rename_i hc
              rw [if_pos hc]
              obtain rfl := Option.some.inj hst'
              have e2 : (wt s t2).drop y = wt (s.drop y) (fun x => if memN x (tmpsOf [y]) then (t2 x).view else t2 x) := by rw [drop_eq, drop_eq]; rfl
              refine ⟨?_, fun z hz => ?_⟩
              · rw [e2, wt_setOb, setOb_t, drop_t]
                congr 2
                funext z
                by_cases hz : memN z (tmpsOf [y]) = true
                · simp [hz, hyt z hz]
                · simp [hz]
              · rw [setOb_t, drop_t]
                dsimp only
                rw [hz]; rfl
            · cases hst'
          | _ => exact old hst'
      | _ => cases hst'
  case call c =>
    obtain ⟨callee, args, argTypes⟩ := c
    cases callee with
    | value f =>
      cases dst with
      | none => simp [isW] at hw
      | some d =>
        have hch : chg (E.H s.f) ⟨some d, .call { callee := .value f, args := args, argTypes := argTypes }, ty, pos, af, gd⟩ = [d] := by simp [chg, drops, cuts]
        rw [hch]
        obtain ⟨hnb, hnl⟩ : memN d (E.H s.f).brw = false ∧ memN d (E.H s.f).lend = false := by
          have := hw
          simp [isW] at this
          exact this.2
        have hnb' : inOpt (some d) (E.H s.f).brw = false := hnb
        have hnl' : inOpt (some d) (E.H s.f).lend = false := hnl
        have hst' : evCallV E ev (callN E (some d) f args argTypes [] s) = some s1 := by
          rw [← callOp_N hnb' hnl']; exact hst
        show evCallV E ev (callOp E (some d) f args argTypes [] (wt s t2)) = _ ∧ _
        rw [callOp_N (s := wt s t2) hnb' hnl']
        have put_mix : ∀ (s3 : St) (v : V), s3.t = s.t → (wt s3 t2).put d v = wt (s3.put d v) (fun x => if memN x [d] then (s3.put d v).t x else t2 x) ∧ ∀ x, memN x [d] = false → (s3.put d v).t x = s.t x := by
          intro s3 v h3
          refine ⟨?_, fun x hx => ?_⟩
          · show ({ t := upd t2 d v, b := s3.b, o := s3.o, r := s3.r, f := s3.f, n := s3.n } : St) = _
            rw [upd_mix (s3 := s3) [d] (by simp [memN]) (fun x hx hne => by simp [memN, hne] at hx)]
            rfl
          · show upd s3.t d v x = s.t x
            unfold upd
            have : x ≠ d := by rintro rfl; simp [memN] at hx
            rw [if_neg this, h3]
        rcases wt_callOp (E := E) (s := s) (t2 := t2) (d := d) (tys := argTypes) (hs f (by simp [Op.operands, Call.operands]) 0) (fun i hi => hag i (by simp only [Op.operands, Call.operands]; simp; exact .inr (Array.mem_toList_iff.1 hi))) with ⟨g, vs, outer, plain, s3, e1, e2, e3⟩ | ⟨s3, v, e1, e2, e3⟩ | e1
        · rw [e1] at hst'
          rw [e2]
          unfold evCallV at hst' ⊢
          dsimp only at hst' ⊢
          split at hst'
          · cases hst'
          · split at hst'
            · cases hst'
            · rename_i r hr
              obtain rfl := Option.some.inj hst'
              unfold backS
              obtain ⟨plain, fl⟩ := plain
              obtain ⟨p1, p2⟩ := put_mix s3 (finV fl r.1) e3
              cases plain
              · simp only [Bool.false_eq_true, if_false]
                refine ⟨?_, p2⟩
                show some ({ (wt s3 t2).put d (finV fl r.1) with b := r.2.headD n0, o := r.2.tail } : St) = _
                rw [p1]
                rfl
              · simp only [if_true]
                exact ⟨congrArg some p1, p2⟩
        · rw [e1] at hst'
          rw [e2]
          obtain rfl := Option.some.inj (show some (s3.put d v) = some s1 from hst')
          obtain ⟨p1, p2⟩ := put_mix s3 v e3
          exact ⟨congrArg some p1, p2⟩
        · rw [e1] at hst'; cases hst'
    | _ => simp [isW] at hw
  all_goals (simp [isW] at hw; done)
end Go.Ev
