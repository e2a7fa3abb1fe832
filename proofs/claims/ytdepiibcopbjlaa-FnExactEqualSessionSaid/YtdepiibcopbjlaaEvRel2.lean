/- Handing over, putting down, growing. -/
import Derived.Test.YtdepiibcopbjlaaEvRel
namespace Go.Ev
open Go
set_option linter.unusedVariables false

def Gh.ren (G : Gh) (f : Pl → Pl) : Gh := { G with ω := fun g => (G.ω g).map f }
theorem Gh.ren_le (G : Gh) (f : Pl → Pl) : Le G (G.ren f) := ⟨fun _ _ _ h => h, fun _ _ _ h => h⟩
theorem Gh.ren_le' (G : Gh) (f : Pl → Pl) : Le (G.ren f) G := ⟨fun _ _ _ h => h, fun _ _ _ h => h⟩
theorem ren_ω {G : Gh} {f : Pl → Pl} {g : Nat} {p : Pl} (h : G.ω g = some p) : (G.ren f).ω g = some (f p) := by simp [Gh.ren, h]
theorem OwnC.ren {G : Gh} {w : World} {p p' : Pl} {v : V} {x : Value} (h : OwnC G w p v x) (f : Pl → Pl) (hp : f p = p') : OwnC (G.ren f) w p' v x :=
  h.mono (G.ren_le f) fun g hg => ⟨rfl, fun _ => rfl, by rw [ren_ω hg, hp]⟩
theorem OwnV.ren {G : Gh} {w : World} {p p' : Nat → Pl} {v : V} {x : Value} (h : OwnV G w p v x) (f : Pl → Pl) (hp : ∀ j, f (p j) = p' j) : OwnV (G.ren f) w p' v x :=
  h.mono (G.ren_le f) fun j g hg => ⟨rfl, fun _ => rfl, by rw [ren_ω hg, hp]⟩
theorem OwnS.ren {G : Gh} {w : World} {p p' : Nat → Nat → Pl} {v : V} {x : Value} (h : OwnS G w p v x) (f : Pl → Pl) (hp : ∀ i j, f (p i j) = p' i j) : OwnS (G.ren f) w p' v x :=
  h.mono (G.ren_le f) fun i j g hg => ⟨rfl, fun _ => rfl, by rw [ren_ω hg, hp]⟩
theorem ObR.mono {G G' : Gh} {w w' : World} {lv t g : Nat} {ob : Ob} (h : ObR G w lv t g ob) (hle : Le G G') (hg : w'.heap[g]? = w.heap[g]? ∧ (∀ j, G'.S g j = G.S g j))
    (hs : ∀ j k, G.ω k = some (.cl lv t j) → w'.heap[k]? = w.heap[k]? ∧ (∀ j, G'.S k j = G.S k j) ∧ G'.ω k = some (.cl lv t j)) : ObR G' w' lv t g ob := by
  cases ob with
  | box cells =>
    obtain ⟨cs, ty, h1, h2, h3, h4⟩ := h
    exact ⟨cs, ty, hg.1.trans h1, h2, fun j => (hg.2 j).trans (h3 j), fun j hj => (h4 j hj).mono hle (hs j)⟩
  | arr fz sz l =>
    obtain ⟨cs, ty, h1, h2, h3, h4, h5⟩ := h
    refine ⟨cs, ty, hg.1.trans h1, h2, h3, fun i j hi hj => hle.tr (h4 i j hi hj), ?_⟩
    cases fz
    · exact fun j => (hg.2 j).trans (h5 j)
    · exact fun j hj => (hg.2 j).trans (h5 j hj)
  | map es =>
    obtain ⟨en, ck, h1, h2, h3, h5, h4⟩ := h
    exact ⟨en, ck, hg.1.trans h1, h2, fun j => (hg.2 j).trans (h3 j), h5, fun i hi => ⟨hle.tr (h4 i hi).1, hle.tr (h4 i hi).2⟩⟩
theorem ObR.ren {G : Gh} {w : World} {lv t g : Nat} {ob : Ob} (h : ObR G w lv t g ob) (f : Pl → Pl) (hp : ∀ j, f (.cl lv t j) = .cl lv t j) : ObR (G.ren f) w lv t g ob :=
  h.mono (G.ren_le f) ⟨rfl, fun _ => rfl⟩ fun j k hk => ⟨rfl, fun _ => rfl, by rw [ren_ω hk, hp]⟩

theorem ren_fr {lv : Nat} {G : Gh} {w : World} {f : Pl → Pl} (h : ∀ p, f p = p ∨ Mine lv p) : Fr lv G w (G.ren f) w := by
  refine ⟨rfl, rfl, rfl, Nat.le_refl _, fun g hg hm => ⟨rfl, ?_, fun _ => rfl⟩, fun _ _ _ h => h, fun _ _ _ => rfl⟩
  cases hω : G.ω g with
  | none => simp [Gh.ren, hω]
  | some p =>
    rw [ren_ω hω]
    rcases h p with h | h
    · rw [h]
    · exact absurd h (hm p hω)
theorem ren_lim {G : Gh} {w : World} {f : Pl → Pl} (h : ∀ g p, G.ω g = some p → g < w.heap.size) : ∀ g p, (G.ren f).ω g = some p → g < w.heap.size := by
  intro g p hp
  cases hω : G.ω g with
  | none => simp [Gh.ren, hω] at hp
  | some q => exact h g q hω

theorem V.view_view (v : V) : v.view.view = v.view := by
  cases v <;> try rfl
  simp only [V.view, List.map_map]
  congr 1
  refine List.map_congr_left fun x _ => ?_
  cases x <;> rfl
theorem V.view_tup (v : V) : ∀ l, v.view ≠ .tup l := by cases v <;> intro l h <;> cases h

def takeF (lv i : Nat) : Pl → Pl
  | .tm l t c j => if l = lv ∧ t = i then .rs c j else .tm l t c j
  | p => p
/-- an operand is handed over -/
theorem Rel.take {G : Gh} {s : St} {a : Act} {w : World} (h : Rel G s a w) (i : Nat) :
    ∃ G', Rel G' (s.put i (s.t i).view) a w ∧ OwnS G' w Pl.rs (s.t i) (a.tmps.getD i undef) ∧ Fr s.lv G w G' w ∧ (∀ c j g, G.ω g = some (.rs c j) → G'.ω g = some (.rs c j)) ∧ G'.S = G.S ∧ G'.β = G.β := by
  have hrs : ∀ c j, takeF s.lv i (.tm s.lv i c j) = .rs c j := fun c j => by simp [takeF]
  refine ⟨G.ren (takeF s.lv i), ⟨h.size, h.defers, fun t => ?_, fun lv t ob hob => ?_, h.dom, h.imm, ren_lim h.lim⟩, (h.slot i).ren _ hrs, ren_fr ?_, fun c j g hg => by rw [ren_ω hg]; rfl, rfl, rfl⟩
  · by_cases ht : t = i
    · subst ht
      have : (s.put t (s.t t).view).t t = (s.t t).view := by simp [St.put, upd]
      rw [this]
      exact OwnS.of_tr ((G.ren_le _).tr (h.slot t).view) (V.view_view _) (V.view_tup _)
    · have : (s.put i (s.t i).view).t t = s.t t := by simp [St.put, upd, ht]
      rw [this]
      exact (h.slot t).ren _ fun c j => by
        have : (St.put s i (s.t i).view).lv = s.lv := rfl
        simp [takeF, ht, this]
  · obtain ⟨g, h1, h2, h3⟩ := h.obj lv t ob hob
    exact ⟨g, h1, by rw [ren_ω h2]; rfl, h3.ren _ fun j => rfl⟩
  · intro p
    cases p with
    | tm l t c j =>
      by_cases hl : l = s.lv ∧ t = i
      · exact .inr (by rw [hl.1]; exact Nat.le_refl _)
      · exact .inl (by simp [takeF, hl])
    | _ => exact .inl rfl

def putF (lv d : Nat) : Pl → Pl
  | .rs c j => .tm lv d c j
  | p => p
theorem getD_setIfInBounds {α : Type} (x : Array α) (d t : Nat) (v u : α) : (x.setIfInBounds d v).getD t u = if t = d ∧ d < x.size then v else x.getD t u := by
  simp only [Array.getD_eq_getD_getElem?, Array.getElem?_setIfInBounds]
  by_cases hd : d = t
  · subst hd
    by_cases hs : d < x.size
    · simp [hs]
    · simp [hs]
  · have : ¬ t = d := fun e => hd e.symm
    simp [hd, this]
/-- a value is put down -/
theorem Rel.put {G : Gh} {s : St} {a : Act} {w : World} (h : Rel G s a w) {v : V} {x : Value} (hv : OwnS G w Pl.rs v x) (d : Nat) (hd : d < s.n) :
    ∃ G', Rel G' (s.put d v) (a.put (some d) x) w ∧ Fr s.lv G w G' w ∧ G'.S = G.S ∧ G'.β = G.β := by
  refine ⟨G.ren (putF s.lv d), ⟨by simp [Act.put, St.put, h.size], h.defers, fun t => ?_, fun lv t ob hob => ?_, h.dom, h.imm, ren_lim h.lim⟩, ren_fr ?_, rfl, rfl⟩
  · show OwnS _ _ _ _ ((a.tmps.setIfInBounds d x).getD t undef)
    rw [getD_setIfInBounds]
    by_cases ht : t = d
    · subst ht
      have : (s.put t v).t t = v := by simp [St.put, upd]
      rw [this, if_pos ⟨rfl, h.size ▸ hd⟩]
      exact hv.ren _ fun c j => rfl
    · have : (s.put d v).t t = s.t t := by simp [St.put, upd, ht]
      rw [this, if_neg (fun e => ht e.1)]
      exact (h.slot t).ren _ fun c j => rfl
  · obtain ⟨g, h1, h2, h3⟩ := h.obj lv t ob hob
    exact ⟨g, h1, by rw [ren_ω h2]; rfl, h3.ren _ fun j => rfl⟩
  · intro p
    cases p with
    | rs c j => exact .inr trivial
    | _ => exact .inl rfl
/-- a value without anything of its own -/
theorem Rel.put_tr {G : Gh} {s : St} {a : Act} {w : World} (h : Rel G s a w) {v : V} {x : Value} (hv : Tr G.S G.β v x) (hn : v.view = v) (ht : ∀ l, v ≠ .tup l) (d : Nat) (hd : d < s.n) :
    ∃ G', Rel G' (s.put d v) (a.put (some d) x) w ∧ Fr s.lv G w G' w ∧ G'.S = G.S ∧ G'.β = G.β := h.put (OwnS.of_tr hv hn ht) d hd

theorem cst_tr {P : Program} {S β} (ty : TypeId) (v : Value) : Tr S β (cst P ty v).view v := by
  unfold cst
  split
  · exact .bool _
  · exact .int _ _
  · exact .str _
  · exact .slc0 _ _ _
  · exact .nilp
  · exact .nilfn
  · exact .undef _
theorem Rel.see {G : Gh} {s : St} {a : Act} {w : World} (h : Rel G s a w) (P : Program) (ty : TypeId) (x : Operand) : Tr G.S G.β (s.see P ty x) (a.eval x) := by
  cases x with
  | tmp i => exact (h.slot i).view
  | const v => exact cst_tr ty v
  | func f => exact .fn f [] #[] rfl (fun i hi => absurd hi (Nat.not_lt_zero _))
  | global g => exact .undef _
theorem see_view (s : St) (P : Program) (ty : TypeId) (x : Operand) : (s.see P ty x).view = s.see P ty x := by
  cases x <;> first | exact V.view_view _ | rfl
theorem see_tup (s : St) (P : Program) (ty : TypeId) (x : Operand) : ∀ l, s.see P ty x ≠ .tup l := by
  cases x <;> first | exact V.view_tup _ | (intro l h; cases h)

/-- the world has grown, and nothing that was said of turns -/
theorem Rel.grow {G G' : Gh} {s : St} {a : Act} {w w' : World} (h : Rel G s a w) (hle : Le G G') (hβ : G'.β = G.β)
    (hs : ∀ g p, (∀ c j, p ≠ .rs c j) → G.ω g = some p → w'.heap[g]? = w.heap[g]? ∧ (∀ j, G'.S g j = G.S g j) ∧ G'.ω g = some p)
    (himm : ∀ g j c, G'.S g j = some c → w'.cell? ⟨g, j, none⟩ = some c) (hlim : ∀ g p, G'.ω g = some p → g < w'.heap.size) : Rel G' s a w' :=
  ⟨h.size, h.defers, fun t => (h.slot t).mono hle fun c j g hg => hs g _ (fun _ _ e => by cases e) hg, fun lv t ob hob => by
    obtain ⟨g, h1, h2, h3⟩ := h.obj lv t ob hob
    obtain ⟨k1, k2, k3⟩ := hs g _ (fun _ _ e => by cases e) h2
    exact ⟨g, hle.β _ _ _ h1, k3, h3.mono hle ⟨k1, k2⟩ fun j k hk => hs k _ (fun _ _ e => by cases e) hk⟩, fun lv t g hg => h.dom lv t g (by rw [← hβ]; exact hg), himm, hlim⟩
end Go.Ev
