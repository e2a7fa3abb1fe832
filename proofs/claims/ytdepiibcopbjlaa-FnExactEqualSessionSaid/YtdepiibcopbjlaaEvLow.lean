/- What a step leaves as it was. -/
import Derived.Test.YtdepiibcopbjlaaEvEnds
namespace Go.Ev
open Go
set_option linter.unusedVariables false
set_option linter.unusedSimpArgs false
variable {P : Program} {G : Gh} {s : St} {a : Act} {w : World} {o : Oper}

def LowO (l : Nat) : Ob → Prop
  | .box cs => ∀ c ∈ cs, lowV l c = true
  | _ => True
def Low (s : St) : Prop := ∀ lv t ob, s.ob lv t = some ob → LowO lv ob
structure Nx (s s1 : St) : Prop where
  lv : s1.lv = s.lv
  r : s1.r = s.r
  f : s1.f = s.f
  n : s1.n = s.n
  low : Low s → Low s1
theorem Nx.refl (s : St) : Nx s s := ⟨rfl, rfl, rfl, rfl, id⟩
theorem Nx.trans {s s1 s2 : St} (h : Nx s s1) (k : Nx s1 s2) : Nx s s2 := ⟨k.lv.trans h.lv, k.r.trans h.r, k.f.trans h.f, k.n.trans h.n, fun l => k.low (h.low l)⟩
theorem Nx.put (s : St) (d : Nat) (v : V) : Nx s (s.put d v) := ⟨rfl, rfl, rfl, rfl, id⟩
theorem Nx.putO (s : St) (d : Option Nat) (v : V) : Nx s (s.putO d v) := by cases d; exact .refl s; exact .put s _ v
theorem Nx.drop (s : St) (x : Operand) : Nx s (s.drop x) := by
  unfold St.drop
  split
  · exact .put _ _ _
  · exact .refl _
theorem Nx.setOb {lv u : Nat} {old ob : Ob} (h : s.ob lv u = some old) (hl : LowO lv old → LowO lv ob) : Nx s (s.setOb lv u ob) := by
  refine ⟨setOb_lv _ _ _, ?_, ?_, setOb_n _ _ _, fun hlow => ?_⟩
  · unfold St.setOb; split <;> rfl
  · unfold St.setOb; split <;> rfl
  · intro l t ob' ho
    rw [ob_setOb h] at ho
    split at ho
    · rename_i he
      obtain rfl := Option.some.inj ho
      rw [he.1]
      exact hl (hlow _ _ _ h)
    · exact hlow _ _ _ ho
theorem ob_new {d l t : Nat} {ob : Ob} : ({ s with b := upd s.b d (some ob) } : St).ob l t = if l = s.lv ∧ t = d then some ob else s.ob l t := by
  show (if l = s.o.length then upd s.b d (some ob) t else obIn t l s.o) = if l = s.o.length ∧ t = d then some ob else (if l = s.o.length then s.b t else obIn t l s.o)
  by_cases h1 : l = s.o.length
  · by_cases h2 : t = d
    · simp [h1, h2, upd]
    · simp [h1, h2, upd]
  · simp [h1]
theorem Nx.new {d : Nat} {ob : Ob} (hl : LowO s.lv ob) : Nx s { s with b := upd s.b d (some ob) } := by
  refine ⟨rfl, rfl, rfl, rfl, fun hlow => ?_⟩
  intro l t ob' ho
  rw [ob_new] at ho
  split at ho
  · rename_i he
    obtain rfl := Option.some.inj ho
    rw [he.1]
    exact hl
  · exact hlow _ _ _ ho
theorem Nx.frz (v : V) : Nx s (s.frz v) := by
  unfold St.frz
  split
  · split
    · rename_i ho
      exact .setOb ho fun _ => trivial
    · exact .refl _
  · exact .refl _
theorem Nx.tree {ty : TypeId} {x : Operand} {v : V} {s1 : St} (h : s.tree P ty x = some (v, s1)) : Nx s s1 := by
  unfold St.tree at h
  obtain ⟨u, hu, he⟩ := Option.map_eq_some_iff.1 h
  obtain ⟨rfl, rfl⟩ := Prod.mk.inj he
  exact .frz _
theorem Nx.trees : ∀ (xs : List (TypeId × Operand)) {s s1 : St} {vs : List V}, St.trees P s xs = some (vs, s1) → Nx s s1 := by
  intro xs
  induction xs with
  | nil => intro s s1 vs h; obtain ⟨_, rfl⟩ := Prod.mk.inj (Option.some.inj h); exact .refl _
  | cons x xs ih =>
    intro s s1 vs h
    unfold St.trees at h
    split at h
    · rename_i v s2 h1
      split at h
      · rename_i vs2 s3 h2
        obtain ⟨_, rfl⟩ := Prod.mk.inj (Option.some.inj h)
        exact (Nx.tree h1).trans (ih h2)
      · cases h
    · cases h
theorem Nx.arg {ty : TypeId} {x : Operand} {v : V} {s1 : St} (h : s.arg P ty x = some (v, s1)) : Nx s s1 := by
  unfold St.arg at h
  split at h
  · obtain ⟨_, rfl⟩ := Prod.mk.inj (Option.some.inj h); exact .refl _
  · obtain ⟨_, rfl⟩ := Prod.mk.inj (Option.some.inj h); exact .refl _
  · obtain ⟨_, rfl⟩ := Prod.mk.inj (Option.some.inj h); exact .refl _
  · exact .tree h
theorem Nx.args : ∀ (xs : List (TypeId × Operand)) {s s1 : St} {vs : List V}, St.args P s xs = some (vs, s1) → Nx s s1 := by
  intro xs
  induction xs with
  | nil => intro s s1 vs h; obtain ⟨_, rfl⟩ := Prod.mk.inj (Option.some.inj h); exact .refl _
  | cons x xs ih =>
    intro s s1 vs h
    unfold St.args at h
    split at h
    · rename_i v s2 h1
      split at h
      · rename_i vs2 s3 h2
        obtain ⟨_, rfl⟩ := Prod.mk.inj (Option.some.inj h)
        exact (Nx.arg h1).trans (ih h2)
      · cases h
    · cases h
theorem mem_setL {l c : List V} {off : Nat} {x : V} (h : x ∈ setL l off c) : x ∈ l ∨ x ∈ c := by
  unfold setL at h
  rw [List.mem_append, List.mem_append] at h
  rcases h with (h | h) | h
  · exact .inl (List.mem_of_mem_take h)
  · exact .inr h
  · exact .inl (List.mem_of_mem_drop h)
theorem lowV_viewC (l : Nat) (v : V) : lowV l v.viewC = lowV l v := by cases v <;> rfl
theorem Nx.buildF (fs : Array Field) : ∀ (ps : List (Nat × Operand)) {s s1 : St} {cs cs1 : List V}, buildF P fs s cs ps = some (cs1, s1) → Nx s s1 := by
  intro ps
  induction ps with
  | nil => intro s s1 cs cs1 h; obtain ⟨_, rfl⟩ := Prod.mk.inj (Option.some.inj h); exact .refl _
  | cons p ps ih =>
    intro s s1 cs cs1 h
    obtain ⟨i, x⟩ := p
    unfold Ev.buildF at h
    split at h
    · dsimp only at h
      split at h
      · split at h
        · cases h
        · cases h
        · exact (Nx.drop s x).trans (ih h)
      · cases h
    · cases h
theorem Nx.load {tk : Bool} {t : TypeId} {u v : V} {s1 : St} (h : vLoad P s tk t u = some (v, s1)) : Nx s s1 := by
  unfold vLoad at h
  split at h
  · split at h
    · rename_i ho
      split at h
      · split at h <;> obtain ⟨_, rfl⟩ := Prod.mk.inj (Option.some.inj h)
        · refine .setOb ho fun hl c hc => ?_
          rcases mem_setL hc with hc | hc
          · exact hl c hc
          · obtain ⟨y, hy, rfl⟩ := List.mem_map.1 hc
            rw [lowV_viewC]
            exact hl y (List.mem_of_mem_drop (List.mem_of_mem_take hy))
        · exact .refl _
      · cases h
    · cases h
  · split at h
    · obtain ⟨_, rfl⟩ := Prod.mk.inj (Option.some.inj h); exact .refl _
    · cases h
  · split at h
    · split at h
      · obtain ⟨_, rfl⟩ := Prod.mk.inj (Option.some.inj h); exact .refl _
      · cases h
    · cases h
  · cases h
theorem Nx.evV {H : Hint} {dd : Nat} {ty : TypeId} {op : Op} {v : V} {s1 : St} (hv : evV P H dd ty op s = some (v, s1)) : Nx s s1 := by
  have pn : ∀ {x : Option V} {v : V} {s1 : St}, x.map (·, s) = some (v, s1) → Nx s s1 := fun h => (pk h).2 ▸ .refl _
  unfold Ev.evV at hv
  split at hv
  · split at hv
    · split at hv <;> obtain ⟨rfl, rfl⟩ := Prod.mk.inj (Option.some.inj hv)
      · exact .drop _ _
      · exact .refl _
    · obtain ⟨rfl, rfl⟩ := Prod.mk.inj (Option.some.inj hv); exact .refl _
  · split at hv
    · split at hv <;> obtain ⟨rfl, rfl⟩ := Prod.mk.inj (Option.some.inj hv)
      · exact .drop _ _
      · exact .refl _
    · obtain ⟨rfl, rfl⟩ := Prod.mk.inj (Option.some.inj hv); exact .refl _
  · split at hv
    · obtain ⟨rfl, rfl⟩ := Prod.mk.inj (Option.some.inj hv); exact .refl _
    · cases hv
  · split at hv
    · split at hv
      · rename_i hl
        obtain ⟨rfl, rfl⟩ := Prod.mk.inj (Option.some.inj hv)
        exact .new fun c hc => List.all_eq_true.1 hl c hc
      · cases hv
    · cases hv
  · rename_i e x
    split at hv
    · cases hv
    · cases hv
    · split at hv
      · rename_i hl
        obtain ⟨rfl, rfl⟩ := Prod.mk.inj (Option.some.inj hv)
        refine Nx.trans (Nx.drop s x) ?_
        have hb : (s.drop x).b = s.b := by unfold St.drop; split <;> rfl
        have := Nx.new (s := s.drop x) (d := dd) (ob := .box (s.all P _ x).flat) fun c hc => by
          have := List.all_eq_true.1 hl c hc
          rw [(Nx.drop s x).lv]; exact this
        rw [hb] at this
        exact this
      · cases hv
    · cases hv
  · split at hv
    · split at hv
      · obtain ⟨r, hr, he⟩ := Option.map_eq_some_iff.1 hv
        obtain ⟨rfl, rfl⟩ := Prod.mk.inj he
        exact .buildF _ _ hr
      · cases hv
    · split at hv
      · split at hv
        · rename_i ht
          split at hv
          · obtain ⟨rfl, rfl⟩ := Prod.mk.inj (Option.some.inj hv)
            exact .trees _ ht
          · cases hv
        · cases hv
      · cases hv
    · cases hv
  · split at hv
    · split at hv
      · rename_i ht
        split at hv
        · split at hv
          · split at hv
            · obtain ⟨rfl, rfl⟩ := Prod.mk.inj (Option.some.inj hv)
              exact (Nx.trees _ ht).trans (.new trivial)
            · cases hv
          · obtain ⟨rfl, rfl⟩ := Prod.mk.inj (Option.some.inj hv)
            exact .trees _ ht
        · cases hv
      · cases hv
    · cases hv
  · exact .load hv
  · split at hv <;> first
      | (cases hv; done)
      | (obtain ⟨rfl, rfl⟩ := Prod.mk.inj (Option.some.inj hv); exact .refl _)
  · exact pn hv
  · exact pn hv
  · exact pn hv
  · split at hv
    · obtain ⟨cs, hcs, he⟩ := Option.map_eq_some_iff.1 hv
      obtain ⟨rfl, rfl⟩ := Prod.mk.inj he
      exact .refl _
    · cases hv
  · split at hv
    · obtain ⟨rfl, rfl⟩ := Prod.mk.inj (Option.some.inj hv)
      exact .new trivial
    · cases hv
  · split at hv
    · split at hv
      · split at hv
        · split at hv
          · split at hv
            · obtain ⟨rfl, rfl⟩ := Prod.mk.inj (Option.some.inj hv)
              exact .new trivial
            · cases hv
          · obtain ⟨rfl, rfl⟩ := Prod.mk.inj (Option.some.inj hv); exact .refl _
        · cases hv
      · cases hv
    · cases hv
  · split at hv
    · exact pn hv
    · cases hv
  · exact pn hv
  · exact pn hv
  · exact pn hv
  · exact pn hv
  · split at hv
    · exact pn hv
    · cases hv
  · split at hv
    · split at hv
      · obtain ⟨x, hx, he⟩ := Option.map_eq_some_iff.1 hv
        obtain ⟨rfl, rfl⟩ := Prod.mk.inj he
        exact .put _ _ _
      · cases hv
    · cases hv
  · split at hv
    · exact pn hv
    · exact pn hv
    · exact pn hv
    · obtain ⟨u, hu, he⟩ := Option.map_eq_some_iff.1 hv
      obtain ⟨rfl, rfl⟩ := Prod.mk.inj he
      exact .drop _ _
    · cases hv
  · cases hv
theorem Nx.evU {op : Op} {s1 : St} (hv : evU P op s = some s1) : Nx s s1 := by
  have mp : ∀ {t m k x}, uMap P s t m k x = some s1 → Nx s s1 := by
    intro t m k x hv
    unfold uMap at hv
    split at hv
    · split at hv
      · rename_i h1
        split at hv
        · rename_i h2
          split at hv
          · split at hv
            · rename_i ho
              split at hv
              · obtain ⟨es, he, rfl⟩ := Option.map_eq_some_iff.1 hv
                exact ((Nx.tree h1).trans (.tree h2)).trans (.setOb ho fun _ => trivial)
              · cases hv
            · cases hv
          · cases hv
        · cases hv
      · cases hv
    · cases hv
  unfold Ev.evU at hv
  split at hv
  · unfold uStore at hv
    split at hv
    · dsimp only at hv
      split at hv
      · rename_i ho
        split at hv
        · rename_i hc
          obtain ⟨_, _, _, _, hl⟩ := hc
          split at hv
          · cases hv
          · cases hv
          · obtain rfl := Option.some.inj hv
            rename_i t _ x _ lv u off _ cs _ _ _ _
            refine (Nx.drop s _).trans (.setOb (by rw [drop_ob]; exact ho) fun hlow c hc => ?_)
            rcases mem_setL hc with hc | hc
            · exact hlow c hc
            · exact List.all_eq_true.1 hl c hc
        · cases hv
      · cases hv
    · split at hv
      · rename_i ht
        split at hv
        · rename_i ho
          split at hv
          · obtain rfl := Option.some.inj hv
            exact (Nx.tree ht).trans (.setOb ho fun _ => trivial)
          · cases hv
        · cases hv
      · cases hv
    · cases hv
  · exact mp hv
  · exact mp hv
  · cases hv
end Go.Ev
