/- The frames of steps. -/
import Derived.Test.YtdepiibcopbjlaaEvFoot2
namespace Go.Ev
open Go
set_option linter.unusedVariables false
set_option linter.unusedSimpArgs false
variable {P : Program} {E : Env} {s s2 : St} {H : Hint} {ev : Run} {o : Oper}

def AgrO (o : Oper) (s s2 : St) : Prop := ∀ i, .tmp i ∈ o.op.operands.toList → s2.t i = s.t i
theorem AgrO.see (h : AgrO o s s2) {x : Operand} (hx : x ∈ o.op.operands.toList) (ty : TypeId) : s2.see P ty x = s.see P ty x := see_alt fun i hi => h i (hi ▸ hx)
theorem dynX_alt (h : AgrO o s s2) : dynX P o s2 = dynX P o s := by
  obtain ⟨dst, op, ty, pos, af, gd⟩ := o
  have hs := fun (x : Operand) (hx : x ∈ op.operands.toList) ty => AgrO.see (P := P) h hx ty
  have all_congr : ∀ {α : Type} (l : List α) (f g : α → Bool), (∀ x ∈ l, f x = g x) → l.all f = l.all g := by
    intro α l f g hh
    induction l with
    | nil => rfl
    | cons a l ih => simp only [List.all_cons]; rw [hh a List.mem_cons_self, ih fun x hx => hh x (List.mem_cons_of_mem _ hx)]
  unfold dynX
  dsimp only
  split
  · rename_i t ps
    refine all_congr _ _ _ fun p hp => ?_
    rw [hs p.2 (by simp only [Op.operands]; simpa using ⟨p.1, Array.mem_toList_iff.1 hp⟩)]
  · rename_i t n ps
    refine all_congr _ _ _ fun p hp => ?_
    rw [hs p.2 (by simp only [Op.operands]; simpa using ⟨p.1, Array.mem_toList_iff.1 hp⟩)]
  · rename_i f args tys
    rw [hs f (by simp [Op.operands, Call.operands])]
    congr 1
    refine all_congr _ _ _ fun x hx => ?_
    rw [hs x (by simp only [Op.operands, Call.operands]; simp; exact .inr (Array.mem_toList_iff.1 hx))]
  · rename_i args tys
    refine all_congr _ _ _ fun x hx => ?_
    rw [hs x (by simp only [Op.operands, Call.operands]; simpa using hx)]
  · rfl
theorem isX_dst (h : isX P H o = true) : ∃ d, o.dst = some d := by
  unfold isX at h
  split at h
  · cases h
  · exact ⟨_, by assumption⟩
theorem zip_non {args : Array Operand} {tys : Array TypeId} (h : (args.toList.all fun x => !isRef (s.see P 0 x)) = true) : ((tys.toList.zip args.toList).all fun x => !isRef (s.see P 0 x.2)) = true := by
  rw [List.all_eq_true] at h ⊢
  intro x hx
  exact h x.2 (List.of_mem_zip hx).2
theorem xval_alt (hx : isX E.P (E.H s.f) o = true) (hd : dynX E.P o s = true) (hag : AgrO o s s2) (hn : s2.n = s.n) (hf : s2.f = s.f) : xval E ev o s2 = xval E ev o s := by
  obtain ⟨dst, op, ty, pos, af, gd⟩ := o
  obtain ⟨d, hdst⟩ := isX_dst hx
  dsimp only at hdst
  subst hdst
  unfold xval
  dsimp only
  split
  · rename_i u i
    rw [hag u (by simp [Op.operands])]
  · rename_i f args tys
    have hs := fun (x : Operand) hx ty => AgrO.see (P := E.P) (x := x) hag hx ty
    rw [hs f (by simp [Op.operands, Call.operands])]
    simp only [dynX, Bool.and_eq_true] at hd
    have h1 := zip_non (tys := tys) hd.2
    obtain ⟨h2, h3⟩ := treesV_alt (s2 := s2) h1 fun i hi => hag i (by
      obtain ⟨x, hx, he⟩ := List.mem_map.1 hi
      have := (List.of_mem_zip hx).2
      rw [he] at this
      simp only [Op.operands, Call.operands]; simp; exact .inr (Array.mem_toList_iff.1 this))
    rw [args_non _ h1, args_non _ h2, h3, hn]
    cases s.see E.P 0 f with
    | fn g caps =>
      cases caps with
      | nil => cases mapOpt (fun x => Ev.tree s (s.see E.P x.1 x.2)) (tys.toList.zip args.toList) <;> rfl
      | cons _ _ => rfl
    | _ => rfl
  · rename_i h1 h2
    rw [hf]
    by_cases he : ∃ u i, op = .extract u i
    · obtain ⟨u, i, rfl⟩ := he
      have hu : ∀ j, u ≠ .tmp j := fun j e => h1 j i (by rw [e])
      unfold evV
      cases u with
      | tmp j => exact absurd rfl (hu j)
      | _ => rfl
    · exact evV_alt hx hd (fun u i e => he ⟨u, i, e⟩) hag
theorem xval_step {v : V} (hx : isX E.P (E.H s.f) o = true) (hd : dynX E.P o s = true) (hin : inDst s o = true) (hv : xval E ev o s = some v) (hne : ∀ u i, o.op ≠ .extract u i) : stepOV E ev o s = some (s.setX (E.H s.f) o v) := by
  obtain ⟨dst, op, ty, pos, af, gd⟩ := o
  obtain ⟨d, hdst⟩ := isX_dst hx
  dsimp only at hdst
  subst hdst
  rw [setX_eq]
  unfold xval at hv
  unfold stepOV
  dsimp only at hv ⊢
  split at hv
  · rename_i u i; exact absurd rfl (hne _ _)
  · rename_i f args tys
    simp only [dynX, Bool.and_eq_true] at hd
    have h1 := zip_non (tys := tys) hd.2
    split at hv
    · rename_i g vs sx hf ha
      have ha0 := ha
      rw [args_non _ h1] at ha0
      obtain ⟨vs', hvs, he⟩ := Option.map_eq_some_iff.1 ha0
      obtain ⟨rfl, rfl⟩ := Prod.mk.inj he
      split at hv
      · rename_i hc
        have hnr : (vs' ++ []).any isRef = false := by
          obtain ⟨hl, hm⟩ := mapOpt_spec hvs
          cases hb : (vs' ++ []).any isRef with
          | false => rfl
          | true =>
            obtain ⟨y, hy, hr⟩ := List.any_eq_true.1 hb
            rw [List.append_nil] at hy
            obtain ⟨j, hj, rfl⟩ := List.getElem_of_mem hy
            have hj' : j < (tys.toList.zip args.toList).length := by omega
            obtain ⟨z, z1, z2⟩ := hm j _ (List.getElem?_eq_getElem hj')
            rw [List.getElem?_eq_getElem hj] at z1
            have hr := hr
            have z3 := Option.some.inj z1
            rw [← z3] at z2
            generalize vs'[j] = y' at hr z2
            have hn := List.all_eq_true.1 h1 _ (List.getElem_mem hj')
            simp only [Bool.not_eq_true'] at hn
            rw [isRef_see 0 ((tys.toList.zip args.toList)[j]).1] at hn
            generalize s.see E.P ((tys.toList.zip args.toList)[j]).1 ((tys.toList.zip args.toList)[j]).2 = q at z2 hn
            unfold Ev.tree at z2
            split at z2
            · cases hn
            · split at z2
              · obtain rfl := Option.some.inj z2; cases hr
              · cases z2
            · split at z2
              · rename_i hp
                obtain rfl := Option.some.inj z2
                cases q with
                | fn f' c' =>
                  cases c' with
                  | nil => cases hr
                  | cons _ _ => cases hp
                | slc own sz l => cases hr
                | _ => first | (cases hr; done) | (cases hp; done)
              · cases z2
        have hcall : callOp E (some d) f args tys [] s = match E.orc g vs' with
            | some v => .go [] (s.putO (some d) v)
            | none => .call g vs' [] true (some d) [] s := by
          unfold callOp
          rw [hf, ha]
          dsimp only
          rw [if_pos hc, hnr]
          simp only [Bool.false_or, List.isEmpty_nil, Bool.not_true, Bool.false_eq_true, if_false, List.append_nil]
          cases E.orc g vs' <;> rfl
        show evCallV E ev (callOp E (some d) f args tys [] s) = some ((dropL s []).putO (some d) v)
        rw [hcall, dropL_nil]
        split at hv
        · rename_i ho
          rw [ho]
          obtain rfl := Option.some.inj hv
          rfl
        · rename_i ho
          rw [ho]
          dsimp only [evCallV]
          split at hv
          · rename_i h0
            obtain ⟨r, hr, rfl⟩ := Option.map_eq_some_iff.1 hv
            rw [h0]
            dsimp only
            rw [hr]
            rfl
          · cases hv
      · cases hv
    · cases hv
  · rename_i h1 h2
    obtain ⟨⟨v', s1⟩, hev, rfl⟩ := Option.map_eq_some_iff.1 hv
    have hst := evV_st hx hd hne hev
    have hlt : d < s.n := by simpa [inDst] using hin
    have he : evOp E.P (E.H s.f) ⟨some d, op, ty, pos, af, gd⟩ s = some (s1.put d v') := by
      unfold evOp
      dsimp only
      rw [if_pos hlt]
      show Option.map _ (evV E.P (E.H s.f) d ty op s) = _
      rw [show evV E.P (E.H s.f) d ty op s = some (v', s1) from hev]
      rfl
    rw [hst] at he
    split
    · exact absurd rfl (h2 _ _ _)
    · exact he
end Go.Ev
