/- The whole. -/
import Derived.Test.YtdepiibcopbjlaaEvDraw2
namespace Go.Ev
open Go
set_option linter.unusedVariables false
set_option linter.unusedSimpArgs false
variable {E : Env} {G : Gh} {s : St} {a : Act} {w : World}

theorem soundN (hM : E.P.follows .mixedOrders = true) (hO : OrcOk E) : ∀ n, SoundN E n := by
  intro n
  induction n with
  | zero => intro its s r h; simp [evI] at h
  | succ n ih =>
    intro its s r h hlow fn hf hres G a w hr k hk b cs hb hkind
    -- a step of the machine to the same place
    have next : ∀ {its' : List It} {s' : St} {G' : Gh} {a' : Act} {w' : World} {k' : List Item}, evI E n its' s' = some r → Rel G' s' a' w' → Nx s s' → Fr s.lv G w G' w' → Its its' k' → Steps E.P (lone (b.at a k) cs w) (lone (b.at a' k') cs w') →
        ∃ x w'' fr G'', Steps E.P (lone (b.at a k) cs w) (lone fr cs w'') ∧ fr.fn = s.f ∧ fr.leaving E.P w'' (.returned x) ∧ Done s.lv G w r.2 r.1 x w'' G'' ∧ LowL r.2 := by
      intro its' s' G' a' w' k' hev r' nx f' hk' hst
      obtain ⟨x, w'', fr, G'', h1, h2, h3, h4, h5⟩ := ih its' s' r hev (nx.low hlow) fn (by rw [nx.f]; exact hf) (by rw [nx.r]; exact hres) G' a' w' r' k' hk' b cs (by rw [nx.f]; exact hb) hkind
      exact ⟨x, w'', fr, G'', hst.trans h1, h2.trans nx.f, h3, (nx.lv ▸ h4).pre f', h5⟩
    rw [evI] at h
    cases its with
    | nil =>
      cases hk
      unfold stepI at h
      dsimp only at h
      split at h
      · rename_i e
        split at e <;> cases e
      · rename_i v o e
        split at e
        · rename_i v' s1 hv
          obtain ⟨rfl, rfl⟩ := Out.done.inj e
          obtain rfl := Option.some.inj h
          obtain ⟨x, G', h1, h2⟩ := leaves (b := b) (G' := G) hr hf hres hv hb hkind
          exact ⟨x, w, _, G', .one step_end, hb, h1 [], h2, endV_low hv hlow⟩
        · cases e
      · cases h
      · rename_i e
        split at e <;> cases e
      · rename_i e
        split at e <;> cases e
    | cons i its =>
      cases hk with
      | blk id hk => exact next (by simpa [stepI] using h) hr (.refl _) (Fr.refl _ _ _) hk (.one step_inBlock)
      | lp c hk =>
        unfold stepI at h
        dsimp only at h
        split at h
        · rename_i k2 s2 e
          split at e
          · rename_i s' hc
            obtain ⟨rfl, rfl⟩ := Out.go.inj e
            obtain ⟨G', h1, h2, h3⟩ := canon_ok hr hlow hc
            exact next h h1 h3 h2 (.code c (.lp c hk)) (.one step_inLoop)
          · cases e
        · rename_i e; split at e <;> cases e
        · cases h
        · rename_i e; split at e <;> cases e
        · rename_i e; split at e <;> cases e
      | code c hk =>
        rename_i k
        cases c with
        | skip => exact next (by simpa [stepI] using h) hr (.refl _) (Fr.refl _ _ _) hk (.one step_skip)
        | seq x y => exact next (its' := .code x :: .code y :: its) (by simpa [stepI] using h) hr (.refl _) (Fr.refl _ _ _) (.code x (.code y hk)) (.one step_seq)
        | block id c => exact next (its' := .code c :: .blk id :: its) (by simpa [stepI] using h) hr (.refl _) (Fr.refl _ _ _) (.code c (.blk id hk)) (.one step_block)
        | region id ops dr =>
          cases dr with
          | true =>
            have hds : stepI E (.code (.region id ops true) :: its) s = if drawOk E.P (E.H s.f) ops (orderOf (E.H s.f) id ops.size) then .draw ops (orderOf (E.H s.f) id ops.size) its s else .fail := by simp [stepI]
            rw [hds] at h
            by_cases hok : drawOk E.P (E.H s.f) ops (orderOf (E.H s.f) id ops.size) = true
            · rw [if_pos hok] at h
              dsimp only at h
              split at h
              · rename_i s' h1
                have hwp := draw_all (Q := fun e a' w' => e = .normal ∧ ∃ G', Rel G' s' a' w' ∧ Nx s s' ∧ Fr s.lv G w G' w') ih hO hok h1 hr hlow fun a' w' G' r' nx f' => ⟨rfl, G', r', nx, f'⟩
                obtain ⟨e, a', w', ⟨rfl, G', r', nx, f'⟩, harr⟩ := wp_region_any (id := id) hM hwp b k cs
                exact next h r' nx f' hk harr
              · cases h
            · rw [if_neg hok] at h; cases h
          | false =>
            have h' : evI E n (.ops ops.toList ops :: its) s = some r := by simpa [stepI] using h
            cases n with
            | zero => simp [evI] at h'
            | succ n =>
              obtain ⟨s', h1, h2⟩ := evI_ops h'
              have h1' := stepsO_mono (Nat.le_succ n) h1
              have hwp : wpOps E.P ops (fun e a' w' => e = .normal ∧ ∃ G', Rel G' s' a' w' ∧ Nx s s' ∧ Fr s.lv G w G' w') (List.range' 0 ops.size) a w :=
                region_ok ih hO ops.size 0 (by omega) (by simpa using h1') hr hlow fun a' w' G' r' nx f' => ⟨rfl, G', r', nx, f'⟩
              rw [← List.range_eq_range'] at hwp
              obtain ⟨e, a', w', ⟨rfl, G', r', nx, f'⟩, harr⟩ := wp_ops (P := E.P) _ a w hwp b k cs
              exact next (evI_le E (Nat.le_succ n) h2) r' nx f' hk (.head step_region harr)
        | cond x c1 c2 =>
          unfold stepI at h
          dsimp only at h
          have hx := hr.see E.P 0 x
          generalize s.see E.P 0 x = u at h hx
          cases u with
          | bool t =>
            have hv := hx.bool_inv
            dsimp only at h
            cases t with
            | true => exact next (its' := .code c1 :: its) (by simpa using h) hr (.refl _) (Fr.refl _ _ _) (.code c1 hk) (.one (step_cond hv))
            | false => exact next (its' := .code c2 :: its) (by simpa using h) hr (.refl _) (Fr.refl _ _ _) (.code c2 hk) (.one (step_cond hv))
          | _ => cases h
        | loop c =>
          have h' : evI E n (.lp c :: its) s = some r := by simpa [stepI] using h
          cases n with
          | zero => simp [evI] at h'
          | succ n =>
            rw [evI] at h'
            unfold stepI at h'
            dsimp only at h'
            split at h'
            · rename_i k2 s2 e
              split at e
              · rename_i s' hc
                obtain ⟨rfl, rfl⟩ := Out.go.inj e
                obtain ⟨G', h1, h2, h3⟩ := canon_ok hr hlow hc
                exact next (evI_le E (Nat.le_succ n) h') h1 h3 h2 (.code c (.lp c hk)) (.one step_loop)
              · cases e
            · rename_i e; split at e <;> cases e
            · cases h'
            · rename_i e; split at e <;> cases e
            · rename_i e; split at e <;> cases e
        | exit id =>
          unfold stepI at h
          dsimp only at h
          cases hx : outOf id its with
          | none => rw [hx] at h; cases h
          | some its' =>
            rw [hx] at h
            obtain ⟨k', h1, h2⟩ := hk.exit hx
            exact next h hr (.refl _) (Fr.refl _ _ _) h2 (.one (step_exit h1))
        | ret =>
          have h' : evI E n [] s = some r := by simpa [stepI] using h
          cases n with
          | zero => simp [evI] at h'
          | succ n =>
            rw [evI] at h'
            unfold stepI at h'
            dsimp only at h'
            split at h'
            · rename_i e
              split at e <;> cases e
            · rename_i v o e
              split at e
              · rename_i v' s1 hv
                obtain ⟨rfl, rfl⟩ := Out.done.inj e
                obtain rfl := Option.some.inj h'
                obtain ⟨x, G', h1, h2⟩ := leaves (b := b) (G' := G) hr hf hres hv hb hkind
                exact ⟨x, w, _, G', .one step_ret, hb, h1 _, h2, endV_low hv hlow⟩
              · cases e
            · cases h'
            · rename_i e
              split at e <;> cases e
            · rename_i e
              split at e <;> cases e
        | _ => simp [stepI] at h
end Go.Ev
