/- The frames of operations in regions whose order is drawn. -/
import Derived.Test.YtdepiibcopbjlaaEvFoot
namespace Go.Ev
open Go
set_option linter.unusedVariables false
set_option linter.unusedSimpArgs false
variable {P : Program} {E : Env} {s : St} {H : Hint} {ev : Run}

def dropL (s : St) (D : List Nat) : St := { s with t := fun x => if memN x D then (s.t x).view else s.t x }
theorem dropL_nil : dropL s [] = s := rfl
theorem drop_eq (x : Operand) : s.drop x = dropL s (tmpsOf [x]) := by
  have hd : s.drop x = { s with t := (s.drop x).t } := by unfold St.drop; split <;> rfl
  rw [hd, drop_t]
  rfl
theorem setX_eq (o : Oper) (v : V) : s.setX H o v = (dropL s (drops H o)).putO o.dst v := by
  unfold St.setX
  cases h : o.dst with
  | none =>
    show _ = dropL s (drops H o)
    unfold dropL setT
    simp
  | some d =>
    show _ = (dropL s (drops H o)).put d v
    unfold dropL St.put upd setT
    congr 1
    funext x
    by_cases e : x = d
    · subst e; simp
    · have : ¬ d = x := fun h => e h.symm
      simp [e, this]
theorem pk' {x : Option V} {v : V} {s1 : St} (h : x.map (·, s) = some (v, s1)) : s1 = s := (pk h).2
theorem mv_st {d : Nat} {ty : TypeId} {v : V} {s1 : St} : ∀ x : Operand, (match x with
    | .tmp i => if memN d H.take then some (s.t i, s.drop x) else some ((s.t i).view, s)
    | x => some (rd P s.t ty x, s)) = some (v, s1) → s1 = dropL s (if memN d H.take then tmpsOf [x] else []) := by
  intro x hv
  split at hv
  · split at hv <;> obtain ⟨rfl, rfl⟩ := Prod.mk.inj (Option.some.inj hv)
    · rename_i h; rw [if_pos h]; exact drop_eq _
    · rename_i h; rw [if_neg h]; rfl
  · obtain ⟨rfl, rfl⟩ := Prod.mk.inj (Option.some.inj hv)
    rename_i hn
    have : tmpsOf [x] = [] := by cases x <;> first | rfl | exact absurd rfl (hn _)
    rw [this]
    split <;> rfl
/-- what is handed over, and nothing else -/
theorem evV_st {d : Nat} {ty : TypeId} {op : Op} {pos : String} {af : Array Edge} {gd : Option (Nat × Bool)} {v : V} {s1 : St} (hx : isX P H ⟨some d, op, ty, pos, af, gd⟩ = true) (hd : dynX P ⟨some d, op, ty, pos, af, gd⟩ s = true) (hne : ∀ u i, op ≠ .extract u i) (hv : evV P H d ty op s = some (v, s1)) : s1 = dropL s (drops H ⟨some d, op, ty, pos, af, gd⟩) := by
  have mv := fun x hv => mv_st (P := P) (s := s) (H := H) (d := d) (ty := ty) (v := v) (s1 := s1) x hv
  unfold evV at hv
  split at hv
  case h_1 x => exact mv x hv
  case h_2 x => exact mv x hv
  case h_3 =>
    split at hv
    · obtain ⟨rfl, rfl⟩ := Prod.mk.inj (Option.some.inj hv); rfl
    · cases hv
  case h_6 t ps =>
    split at hv
    · rename_i fs z hu hz
      split at hv
      · obtain ⟨r, hr, he⟩ := Option.map_eq_some_iff.1 hv
        obtain ⟨rfl, rfl⟩ := Prod.mk.inj he
        exact buildF_st _ _ hr
      · cases hv
    · rename_i n e z hu hz
      simp [isX, hu] at hx
    · cases hv
  case h_7 t n ps =>
    have hmk : memN d H.make = false := by simpa [isX] using hx
    have hn : ((ps.toList.map fun p => (elemOf P t, p.2)).all fun x => !isRef (s.see P 0 x.2)) = true := by
      simpa [dynX, List.all_map, Function.comp_def] using hd
    split at hv
    · split at hv
      · rename_i ht
        rw [trees_non _ hn] at ht
        split at hv
        · rw [hmk] at hv
          simp only [Bool.false_eq_true, if_false] at hv
          obtain ⟨rfl, rfl⟩ := Prod.mk.inj (Option.some.inj hv)
          obtain ⟨_, _, he⟩ := Option.map_eq_some_iff.1 ht
          obtain ⟨_, rfl⟩ := Prod.mk.inj he
          rfl
        · cases hv
      · cases hv
    · cases hv
  case h_9 =>
    split at hv <;> first
      | (cases hv; done)
      | (obtain ⟨rfl, rfl⟩ := Prod.mk.inj (Option.some.inj hv); rfl)
  case h_15 t l c =>
    have hmk : memN d H.make = false := by simpa [isX] using hx
    split at hv
    · split at hv
      · split at hv
        · rw [hmk] at hv
          simp only [Bool.false_eq_true, if_false] at hv
          obtain ⟨rfl, rfl⟩ := Prod.mk.inj (Option.some.inj hv)
          rfl
        · cases hv
      · cases hv
    · cases hv
  case h_16 =>
    split at hv
    · exact pk' hv
    · cases hv
  case h_22 u i => exact absurd rfl (hne u i)
  case h_23 b args argTypes =>
    obtain ⟨args⟩ := args
    obtain ⟨argTypes⟩ := argTypes
    dsimp only at hv
    split at hv
    · exact pk' hv
    · exact pk' hv
    · exact pk' hv
    · obtain ⟨u, hu, he⟩ := Option.map_eq_some_iff.1 hv
      obtain ⟨rfl, rfl⟩ := Prod.mk.inj he
      exact drop_eq _
    · cases hv
  all_goals first
    | (exact pk' hv)
    | (simp [isX] at hx; done)
    | (cases hv; done)
theorem fst_pair {x : Option V} (s : St) : (x.map (·, s)).map Prod.fst = x := by cases x <;> rfl
/-- what is looked at, and nothing else -/
theorem evV_alt {d : Nat} {ty : TypeId} {op : Op} {pos : String} {af : Array Edge} {gd : Option (Nat × Bool)} {s2 : St} (hx : isX P H ⟨some d, op, ty, pos, af, gd⟩ = true) (hd : dynX P ⟨some d, op, ty, pos, af, gd⟩ s = true) (hne : ∀ u i, op ≠ .extract u i)
    (hag : ∀ i, .tmp i ∈ op.operands.toList → s2.t i = s.t i) : (evV P H d ty op s2).map Prod.fst = (evV P H d ty op s).map Prod.fst := by
  have hs : ∀ ty x, x ∈ op.operands.toList → s2.see P ty x = s.see P ty x := fun ty x hx => see_alt fun i hi => hag i (hi ▸ hx)
  have ha : ∀ ty x, x ∈ op.operands.toList → s2.all P ty x = s.all P ty x := fun ty x hx => all_alt fun i hi => hag i (hi ▸ hx)
  have mv : ∀ x : Operand, x ∈ op.operands.toList → Option.map Prod.fst (match x with
    | .tmp i => if memN d H.take then some (s2.t i, s2.drop x) else some ((s2.t i).view, s2)
    | x => some (rd P s2.t ty x, s2)) = Option.map Prod.fst (match x with
    | .tmp i => if memN d H.take then some (s.t i, s.drop x) else some ((s.t i).view, s)
    | x => some (rd P s.t ty x, s)) := by
    intro x hx
    cases x with
    | tmp i =>
      dsimp only
      rw [hag i hx]
      split <;> rfl
    | _ => rfl
  cases op
  case move x => exact mv x (by simp [Op.operands])
  case assign x => exact mv x (by simp [Op.operands])
  case pick c a b =>
    simp only [evV]
    rw [hs 0 c (by simp [Op.operands]), hs ty a (by simp [Op.operands]), hs ty b (by simp [Op.operands])]
    split <;> rfl
  case build t ps =>
    simp only [evV]
    split
    · split
      · have := buildF_alt (P := P) ‹Array Field› ps.toList (s := s) (s2 := s2) (cs := ‹List V›) fun i hi => hag i (by simpa [Op.operands] using hi)
        rw [Option.map_map, Option.map_map]
        have e1 : (Prod.fst ∘ fun r : List V × St => (V.agg r.1, r.2)) = V.agg ∘ Prod.fst := rfl
        rw [e1, ← Option.map_map, ← Option.map_map, this]
      · rfl
    · rename_i hu hz; simp [isX, hu] at hx
    · rfl
  case buildSlice t n ps =>
    have hmk : memN d H.make = false := by simpa [isX] using hx
    have hn : ((ps.toList.map fun p => (elemOf P t, p.2)).all fun x => !isRef (s.see P 0 x.2)) = true := by
      simpa [dynX, List.all_map, Function.comp_def] using hd
    obtain ⟨h1, h2⟩ := treesV_alt (s2 := s2) hn fun i hi => hag i (by
      simp only [Op.operands]
      simpa [List.map_map, Function.comp_def] using hi)
    simp only [evV, hmk, Bool.false_eq_true, if_false]
    rw [trees_non _ hn, trees_non _ h1, h2]
    split
    · cases mapOpt (fun x => Ev.tree s (s.see P x.1 x.2)) (ps.toList.map fun p => (elemOf P t, p.2)) with
      | none => rfl
      | some vs =>
        by_cases hc : (vs.all fun v => v.flat.length == elemSz P t) = true <;> simp [hc]
    · rfl
  case nilCheck x =>
    simp only [evV]
    rw [hs 0 x (by simp [Op.operands])]
    split <;> rfl
  case makeSlice t l c =>
    have hmk : memN d H.make = false := by simpa [isX] using hx
    simp only [evV, hmk, Bool.false_eq_true, if_false]
    rw [hs 0 l (by simp [Op.operands]), hs 0 c (by simp [Op.operands])]
    split
    · split
      · split <;> rfl
      · rfl
    · rfl
  case slice t x lo hi mx =>
    simp only [evV]
    have h1 : lo.map (s2.see P 0) = lo.map (s.see P 0) := by
      cases lo with
      | none => rfl
      | some y => simp only [Option.map]; rw [hs 0 y (by simp [Op.operands])]
    have h2 : hi.map (s2.see P 0) = hi.map (s.see P 0) := by
      cases hi with
      | none => rfl
      | some y => simp only [Option.map]; rw [hs 0 y (by simp [Op.operands])]
    have h3 : mx.map (s2.see P 0) = mx.map (s.see P 0) := by
      cases mx with
      | none => rfl
      | some y => simp only [Option.map]; rw [hs 0 y (by simp [Op.operands])]
    rw [h1, h2, h3, hs t x (by simp [Op.operands])]
    split
    · rw [fst_pair, fst_pair]
    · rfl
  case binOp op t x y u =>
    simp only [evV]
    rw [hs t x (by simp [Op.operands]), hs t y (by simp [Op.operands]), fst_pair, fst_pair]
  case unOp op t x =>
    simp only [evV]
    rw [hs t x (by simp [Op.operands]), fst_pair, fst_pair]
  case convert a b x =>
    simp only [evV]
    rw [hs a x (by simp [Op.operands]), fst_pair, fst_pair]
  case fieldAddr t x f =>
    simp only [evV]
    rw [hs 0 x (by simp [Op.operands]), fst_pair, fst_pair]
  case field t x f =>
    simp only [evV]
    rw [hs t x (by simp [Op.operands]), fst_pair, fst_pair]
    rfl
  case indexAddr t x i =>
    simp only [evV]
    rw [hs t x (by simp [Op.operands]), hs 0 i (by simp [Op.operands]), fst_pair, fst_pair]
  case index t x i =>
    simp only [evV]
    rw [hs t x (by simp [Op.operands]), hs 0 i (by simp [Op.operands]), fst_pair, fst_pair]
  case extract u i => exact absurd rfl (hne u i)
  case call c =>
    obtain ⟨callee, args, argTypes⟩ := c
    cases callee with
    | value f => rfl
    | invoke r m => rfl
    | builtin b =>
      obtain ⟨args⟩ := args
      obtain ⟨argTypes⟩ := argTypes
      simp only [evV]
      split
      · rename_i t x
        rw [hs _ _ (by simp [Op.operands, Call.operands]), fst_pair, fst_pair]
        have hm := hd
        simp only [dynX, List.all_cons, List.all_nil, Bool.and_true, Bool.not_eq_true'] at hm
        have e : ∀ (a b : TypeId) (y : Operand), isMp (s.see P a y) = isMp (s.see P b y) := by
          intro a b y
          cases y with
          | tmp i => rfl
          | const v =>
            have : ∀ ty, isMp (cst P ty v).view = false := by intro ty; unfold cst; split <;> rfl
            simp only [St.see, rd]
            rw [this, this]
          | func f => rfl
          | global g => rfl
        rw [e 0 _] at hm
        unfold lenV
        split <;> first | rfl | (rename_i h1; rw [h1] at hm; cases hm)
      · rw [hs _ _ (by simp [Op.operands, Call.operands]), hs _ _ (by simp [Op.operands, Call.operands]), fst_pair, fst_pair]
      · rw [hs _ _ (by simp [Op.operands, Call.operands]), hs _ _ (by simp [Op.operands, Call.operands]), fst_pair, fst_pair]
      · rw [ha _ _ (by simp [Op.operands, Call.operands]), hs _ _ (by simp [Op.operands, Call.operands]), fst_pair, fst_pair]
      · rfl
  all_goals (simp [isX] at hx; done)
end Go.Ev
