/- What an operation looks at and what it turns. -/
import Derived.Test.YtdepiibcopbjlaaEvSound2
namespace Go.Ev
open Go
set_option linter.unusedVariables false
set_option linter.unusedSimpArgs false
variable {P : Program} {E : Env} {s : St} {H : Hint}

theorem memN_app {x : Nat} {l m : List Nat} : memN x (l ++ m) = (memN x l || memN x m) := by
  induction l with
  | nil => rfl
  | cons a l ih => simp only [List.cons_append, memN]; split <;> simp [*]
theorem memN_tmpsOf {i : Nat} : ∀ {l : List Operand}, .tmp i ∈ l → memN i (tmpsOf l) = true := by
  intro l
  induction l with
  | nil => intro h; cases h
  | cons x l ih =>
    intro h
    rcases List.mem_cons.1 h with rfl | h
    · simp [tmpsOf, memN]
    · have := ih h
      cases x <;> simp only [tmpsOf, memN] <;> first | exact this | (split <;> first | rfl | exact this)
def Agr (F : List Nat) (t t2 : Nat → V) : Prop := ∀ x, memN x F = true → t2 x = t x
def alt (s : St) (t : Nat → V) (b : Nat → Option Ob) (o : List (Nat → Option Ob)) : St := { s with t := t, b := b, o := o }
section
variable {t2 : Nat → V} {b2 : Nat → Option Ob} {o2 : List (Nat → Option Ob)}
theorem see_alt {s2 : St} {ty : TypeId} {x : Operand} (h : ∀ i, x = .tmp i → s2.t i = s.t i) : s2.see P ty x = s.see P ty x := by
  cases x with
  | tmp i => simp only [St.see]; rw [h i rfl]
  | _ => rfl
theorem all_alt {s2 : St} {ty : TypeId} {x : Operand} (h : ∀ i, x = .tmp i → s2.t i = s.t i) : s2.all P ty x = s.all P ty x := by
  cases x with
  | tmp i => simp only [St.all]; rw [h i rfl]
  | _ => rfl
theorem isRef_see (ty ty' : TypeId) (x : Operand) : isRef (s.see P ty x) = isRef (s.see P ty' x) := by
  cases x with
  | tmp i => rfl
  | const v =>
    have : ∀ ty, isRef (cst P ty v).view = false := by
      intro ty
      unfold cst
      split <;> rfl
    simp only [St.see, rd]
    rw [this, this]
  | func f => rfl
  | global g => rfl
theorem tree_nonref (s s2 : St) {v : V} (h : isRef v = false) : s.frz v = s ∧ Ev.tree s v = Ev.tree s2 v := by
  cases v <;> first | exact ⟨rfl, rfl⟩ | cases h
theorem St.tree_non {ty : TypeId} {x : Operand} (h : isRef (s.see P 0 x) = false) : s.tree P ty x = (Ev.tree s (s.see P ty x)).map (·, s) := by
  have h' : isRef (s.see P ty x) = false := by rw [isRef_see ty 0]; exact h
  unfold St.tree
  dsimp only
  rw [(tree_nonref s s h').1]
theorem St.arg_non {ty : TypeId} {x : Operand} (h : isRef (s.see P 0 x) = false) : s.arg P ty x = (Ev.tree s (s.see P ty x)).map (·, s) := by
  have h' : isRef (s.see P ty x) = false := by rw [isRef_see ty 0]; exact h
  have h2 := St.tree_non (ty := ty) h
  unfold St.arg
  split
  · rename_i e; rw [e] at h'; cases h'
  · rename_i e; rw [e] at h'; cases h'
  · rename_i f c e
    rw [e] at h' ⊢
    cases c with
    | nil => rfl
    | cons _ _ => cases h'
  · exact h2
theorem trees_non : ∀ (xs : List (TypeId × Operand)), (xs.all fun x => !isRef (s.see P 0 x.2)) = true → St.trees P s xs = (mapOpt (fun x => Ev.tree s (s.see P x.1 x.2)) xs).map (·, s) := by
  intro xs
  induction xs with
  | nil => intro _; rfl
  | cons x xs ih =>
    intro h
    simp only [List.all_cons, Bool.and_eq_true, Bool.not_eq_true'] at h
    obtain ⟨ty, x⟩ := x
    unfold St.trees
    rw [St.tree_non h.1]
    unfold mapOpt
    dsimp only
    cases Ev.tree s (s.see P ty x) with
    | none => rfl
    | some v =>
      dsimp only [Option.map]
      rw [ih (by simpa using h.2)]
      cases mapOpt (fun x => Ev.tree s (s.see P x.1 x.2)) xs <;> rfl
theorem args_non : ∀ (xs : List (TypeId × Operand)), (xs.all fun x => !isRef (s.see P 0 x.2)) = true → St.args P s xs = (mapOpt (fun x => Ev.tree s (s.see P x.1 x.2)) xs).map (·, s) := by
  intro xs
  induction xs with
  | nil => intro _; rfl
  | cons x xs ih =>
    intro h
    simp only [List.all_cons, Bool.and_eq_true, Bool.not_eq_true'] at h
    obtain ⟨ty, x⟩ := x
    unfold St.args
    rw [St.arg_non h.1]
    unfold mapOpt
    dsimp only
    cases Ev.tree s (s.see P ty x) with
    | none => rfl
    | some v =>
      dsimp only [Option.map]
      rw [ih (by simpa using h.2)]
      cases mapOpt (fun x => Ev.tree s (s.see P x.1 x.2)) xs <;> rfl
theorem mapOpt_congr {α β : Type} {f g : α → Option β} : ∀ {l : List α}, (∀ x ∈ l, f x = g x) → mapOpt f l = mapOpt g l := by
  intro l
  induction l with
  | nil => intro _; rfl
  | cons a l ih =>
    intro h
    unfold mapOpt
    rw [h a List.mem_cons_self, ih fun x hx => h x (List.mem_cons_of_mem _ hx)]
theorem treesV_alt {s2 : St} {xs : List (TypeId × Operand)} (hn : (xs.all fun x => !isRef (s.see P 0 x.2)) = true) (h : ∀ i, .tmp i ∈ xs.map Prod.snd → s2.t i = s.t i) :
    (xs.all fun x => !isRef (s2.see P 0 x.2)) = true ∧ mapOpt (fun x => Ev.tree s2 (s2.see P x.1 x.2)) xs = mapOpt (fun x => Ev.tree s (s.see P x.1 x.2)) xs := by
  have hs : ∀ x ∈ xs, ∀ ty, s2.see P ty x.2 = s.see P ty x.2 := fun x hx ty => see_alt fun i hi => h i (List.mem_map.2 ⟨x, hx, hi⟩)
  refine ⟨?_, mapOpt_congr fun x hx => ?_⟩
  · rw [List.all_eq_true] at hn ⊢
    intro x hx
    rw [hs x hx]
    exact hn x hx
  · rw [hs x hx]
    have := List.all_eq_true.1 hn x hx
    simp only [Bool.not_eq_true'] at this
    exact (tree_nonref s2 s (by rw [isRef_see x.1 0]; exact this)).2
theorem drop_t (x : Operand) : (s.drop x).t = fun i => if memN i (tmpsOf [x]) then (s.t i).view else s.t i := by
  funext i
  cases x with
  | tmp j =>
    show upd s.t j _ i = _
    simp only [upd, tmpsOf, memN]
    by_cases e : i = j
    · subst e; simp
    · simp [e]
  | _ => simp [St.drop, tmpsOf, memN]
theorem buildF_alt (fs : Array Field) : ∀ (ps : List (Nat × Operand)) {s s2 : St} {cs : List V}, (∀ i, .tmp i ∈ ps.map Prod.snd → s2.t i = s.t i) → (buildF P fs s2 cs ps).map Prod.fst = (buildF P fs s cs ps).map Prod.fst := by
  intro ps
  induction ps with
  | nil => intro s s2 cs _; rfl
  | cons p ps ih =>
    intro s s2 cs h
    obtain ⟨i, x⟩ := p
    unfold buildF
    cases fs[i]? with
    | none => rfl
    | some f =>
      dsimp only
      have h1 : s2.all P f.type x = s.all P f.type x := all_alt fun j hj => h j (by rw [← hj]; exact List.mem_cons_self)
      rw [h1]
      split
      · split
        all_goals try rfl
        · refine ih fun j hj => ?_
          rw [drop_t, drop_t]
          dsimp only
          rw [h j (List.mem_cons_of_mem _ hj)]
      · rfl
theorem buildF_st (fs : Array Field) : ∀ (ps : List (Nat × Operand)) {s s1 : St} {cs cs1 : List V}, buildF P fs s cs ps = some (cs1, s1) → s1 = { s with t := fun x => if memN x (tmpsOf (ps.map Prod.snd)) then (s.t x).view else s.t x } := by
  intro ps
  induction ps with
  | nil => intro s s1 cs cs1 h; obtain ⟨_, rfl⟩ := Prod.mk.inj (Option.some.inj h); rfl
  | cons p ps ih =>
    intro s s1 cs cs1 h
    obtain ⟨i, x⟩ := p
    unfold buildF at h
    split at h
    · dsimp only at h
      split at h
      · split at h
        · cases h
        · cases h
        · rw [ih h]
          have hd : s.drop x = { s with t := (s.drop x).t } := by unfold St.drop; split <;> rfl
          rw [hd]
          congr 1
          funext j
          dsimp only
          rw [drop_t]
          have e2 : memN j (tmpsOf (List.map Prod.snd ((i, x) :: ps))) = (memN j (tmpsOf [x]) || memN j (tmpsOf (List.map Prod.snd ps))) := by
            cases x <;> simp [tmpsOf, memN]
            try (split <;> simp)
          rw [e2]
          by_cases h1 : memN j (tmpsOf [x]) = true <;> by_cases h2 : memN j (tmpsOf (List.map Prod.snd ps)) = true <;> simp [h1, h2, V.view_view]
      · cases h
    · cases h
end
end Go.Ev
