/- The steps put together. -/
import Derived.Test.YtdepiibcopbjlaaEvOps11
namespace Go.Ev
open Go
set_option linter.unusedVariables false
set_option linter.unusedSimpArgs false
variable {P : Program} {G : Gh} {s : St} {a : Act} {w : World} {o : Oper}
variable {d : Option Nat} {ty : TypeId} {pos : String} {af : Array Edge} {gd : Option (Nat × Bool)}

theorem elemOf_slice {t e : TypeId} (h : P.underlying t = some (.slice e)) : elemOf P t = e := by unfold elemOf; rw [h]
theorem pk {x : Option V} {v : V} {s1 : St} (h : x.map (·, s) = some (v, s1)) : x = some v ∧ s1 = s := by
  obtain ⟨u, hu, he⟩ := Option.map_eq_some_iff.1 h
  obtain ⟨rfl, rfl⟩ := Prod.mk.inj he
  exact ⟨hu, rfl⟩
theorem evV_ok {H : Hint} {dd : Nat} {ty' : TypeId} {op : Op} {v : V} {s1 : St} (h : Rel G s a w) (hv : evV P H dd ty op s = some (v, s1)) : OpOk P ⟨d, op, ty, pos, af, gd⟩ G s a w v s1 := by
  have mv : ∀ x : Operand, (op = .move x ∨ op = .assign x) → (match x with
    | .tmp i => if memN dd H.take then some (s.t i, s.drop x) else some ((s.t i).view, s)
    | x => some (rd P s.t ty x, s)) = some (v, s1) → OpOk P ⟨d, op, ty, pos, af, gd⟩ G s a w v s1 := by
    intro x hx hv
    split at hv
    · split at hv <;> obtain ⟨rfl, rfl⟩ := Prod.mk.inj (Option.some.inj hv)
      · exact op_take h op hx
      · exact op_move h op hx
    · rename_i hn
      obtain ⟨rfl, rfl⟩ := Prod.mk.inj (Option.some.inj hv)
      exact op_const h op hx fun i e => hn i e
  unfold evV at hv
  split at hv
  · exact mv _ (.inl rfl) hv
  · exact mv _ (.inr rfl) hv
  · -- pick
    split at hv
    · rename_i cb hc
      obtain ⟨rfl, rfl⟩ := Prod.mk.inj (Option.some.inj hv)
      exact op_pick h hc
    · cases hv
  · -- alloc
    split at hv
    · rename_i z hb hz
      split at hv
      · obtain ⟨rfl, rfl⟩ := Prod.mk.inj (Option.some.inj hv)
        exact op_alloc h hb hz
      · cases hv
    · cases hv
  · -- box
    split at hv
    · cases hv
    · cases hv
    · rename_i u hb ht hu
      split at hv
      · obtain ⟨rfl, rfl⟩ := Prod.mk.inj (Option.some.inj hv)
        exact op_box h hb rfl hu ht
      · cases hv
    · cases hv
  · -- build
    split at hv
    · rename_i fs z hu hz
      split at hv
      · rename_i hf
        obtain ⟨r, hr, he⟩ := Option.map_eq_some_iff.1 hv
        obtain ⟨rfl, rfl⟩ := Prod.mk.inj he
        exact op_build h hu hz hf hr
      · cases hv
    · rename_i n e z hu hz
      split at hv
      · rename_i hc
        simp only [Bool.and_eq_true, bne_iff_ne, ne_eq, beq_iff_eq] at hc
        obtain ⟨⟨⟨⟨h1, h2⟩, h3⟩, h4⟩, h5⟩ := hc
        split at hv
        · rename_i vs s2 ht
          split at hv
          · rename_i hf
            obtain ⟨rfl, rfl⟩ := Prod.mk.inj (Option.some.inj hv)
            exact op_buildArray h hu hz h3 h4 h1 h2 ht hf
          · cases hv
        · cases hv
      · cases hv
    · cases hv
  · -- buildSlice
    rename_i t n ps
    split at hv
    · rename_i hc
      simp only [Bool.and_eq_true, bne_iff_ne, ne_eq, beq_iff_eq, decide_eq_true_eq] at hc
      obtain ⟨⟨⟨⟨⟨h1, h2⟩, h3⟩, h4⟩, h5⟩, h6⟩ := hc
      obtain ⟨e, he, hel⟩ := isSl_spec h1
      obtain ⟨z, hz⟩ := Option.isSome_iff_exists.1 h6
      have hes : elemSz P t = szOf P e := by unfold elemSz; rw [hel]
      rw [hes] at h4 h5 hv
      rw [hel] at hz hv
      split at hv
      · rename_i vs s2 ht
        split at hv
        · rename_i hf
          split at hv
          · split at hv
            · rename_i hb
              obtain ⟨rfl, rfl⟩ := Prod.mk.inj (Option.some.inj hv)
              exact op_buildArr h he h4 hz h2 h3 h5 ht hf hb
            · cases hv
          · obtain ⟨rfl, rfl⟩ := Prod.mk.inj (Option.some.inj hv)
            exact op_buildSlice h he h4 hz h2 h3 h5 ht hf
        · cases hv
      · cases hv
    · cases hv
  · exact op_load h hv
  · -- nil
    split at hv <;> first
      | (cases hv; done)
      | (rename_i hc
         obtain ⟨rfl, rfl⟩ := Prod.mk.inj (Option.some.inj hv)
         refine op_nil h hc ?_
         first
          | exact .inl ⟨_, _, _, rfl⟩
          | exact .inr (.inl ⟨_, rfl⟩)
          | exact .inr (.inr (.inl ⟨_, _, _, _, rfl⟩))
          | exact .inr (.inr (.inr ⟨_, _, rfl⟩)))
  · obtain ⟨k, rfl⟩ := pk hv; exact op_bin h k
  · obtain ⟨k, rfl⟩ := pk hv; exact op_un h k
  · obtain ⟨k, rfl⟩ := pk hv; exact op_convert h k
  · -- makeFunc
    split at hv
    · rename_i hf
      obtain ⟨cs, hcs, he⟩ := Option.map_eq_some_iff.1 hv
      obtain ⟨rfl, rfl⟩ := Prod.mk.inj he
      rename_i first caps
      obtain rfl : first = #[] := Array.isEmpty_iff.1 hf
      exact op_makeFunc h hcs
    · cases hv
  · -- makeMap
    split at hv
    · rename_i hb
      obtain ⟨rfl, rfl⟩ := Prod.mk.inj (Option.some.inj hv)
      exact op_makeMap h hb
    · cases hv
  · -- makeSlice
    rename_i t l c
    split at hv
    · rename_i n m z hx hy hz
      split at hv
      · rename_i hc
        obtain ⟨h1, h2, h3, h4, h5⟩ := hc
        obtain ⟨e, he, hel⟩ := isSl_spec h1
        have hes : elemSz P t = szOf P e := by unfold elemSz; rw [hel]
        rw [hes] at h2 h4 h5 hv
        rw [hel] at hz h3 hv
        split at hv
        · rename_i hr
          split at hv
          · split at hv
            · rename_i hb
              obtain ⟨rfl, rfl⟩ := Prod.mk.inj (Option.some.inj hv)
              exact op_makeArr h he hx hy hz h4 h2 h5 h3 hr.1 hr.2.1 hr.2.2 hb
            · cases hv
          · obtain ⟨rfl, rfl⟩ := Prod.mk.inj (Option.some.inj hv)
            exact op_make h he hx hy hz h4 h2 h5 h3 hr.1 hr.2.1 hr.2.2
        · cases hv
      · cases hv
    · cases hv
  · -- slice
    split at hv
    · rename_i l r m hl hr hm
      obtain ⟨k, rfl⟩ := pk hv
      exact op_slice h hl hr hm k
    · cases hv
  · obtain ⟨k, rfl⟩ := pk hv; exact op_fieldAddr h k
  · obtain ⟨k, rfl⟩ := pk hv; exact op_field h k
  · obtain ⟨k, rfl⟩ := pk hv; exact op_indexAddr h k
  · obtain ⟨k, rfl⟩ := pk hv; exact op_index h k
  · split at hv
    · rename_i kt e hu
      obtain ⟨k, rfl⟩ := pk hv; exact op_lookup h hu k
    · cases hv
  · -- extract
    split at hv
    · split at hv
      · rename_i u l hu
        obtain ⟨x, hx, he⟩ := Option.map_eq_some_iff.1 hv
        obtain ⟨rfl, rfl⟩ := Prod.mk.inj he
        exact op_extract h hu hx
      · cases hv
    · cases hv
  · -- builtins
    rename_i b args argTypes
    obtain ⟨args⟩ := args
    obtain ⟨argTypes⟩ := argTypes
    dsimp only at hv
    split at hv
    · obtain ⟨k, rfl⟩ := pk hv; exact op_len h k
    · obtain ⟨k, rfl⟩ := pk hv; exact op_min h k
    · obtain ⟨k, rfl⟩ := pk hv; exact op_max h k
    · obtain ⟨u, hu, he⟩ := Option.map_eq_some_iff.1 hv
      obtain ⟨rfl, rfl⟩ := Prod.mk.inj he
      exact op_append h hu
    · cases hv
  · cases hv
theorem evU_ok {op : Op} {s1 : St} (h : Rel G s a w) (hv : evU P op s = some s1) : OpU P ⟨d, op, ty, pos, af, gd⟩ G s a w s1 := by
  unfold evU at hv
  split at hv
  · exact op_store h hv
  · exact op_map h hv _ (.inl rfl)
  · exact op_map h hv _ (.inr rfl)
  · cases hv
end Go.Ev
