/- Proved: for every list of states and every state, the program's HasState returns what the reference's HasState returns, and leaves its arguments as they were. Conditions: lengths fit an int (given with every input). -/
import Derived.Test.YtdepiibcopbjlaaBSFnExactHasState
import Derived.Test.YtdepiibcopbjlaaOpenFnExactHasState
namespace Go.Proofs.Ytdepiibcopbjlaa.Pure
open Go.RowKit Go.Proofs.Ytdepiibcopbjlaa.PFnExactHasState Go.Proofs.Ytdepiibcopbjlaa.BFnExactHasState Go.Proofs.YtdepiibcopbjlaaW.PrintWords Go.Proofs.YtdepiibcopbjlaaW.PrintLast
set_option linter.unusedVariables false

def has (l : List IS) (s : IS) : Bool := anyN (fun i => eqS (l.getD i z46) s) 0 l.length
theorem specHas (l : List IS) (s : IS) (hl : l.length ≤ 1048576) (hs : ∀ s ∈ l, s.f2.length ≤ 1048576) : Ev (fun k => spec_HasState.f k l s.f0 s.f1 s.f2) (has l s) := by
  unfold spec_HasState.f has
  refine Ev.any (g := fun k i => spec_HasState.l0 k l (i : Int) s.f0 s.f1 s.f2) (n := l.length) ?_ ?_ l.length 0 (by omega)
  · refine Ev.up ?_
    simp only [spec_HasState.l0]
    exact Ev.ite_f (by omega) (Ev.val rfl)
  · intro i hi r h1 h2
    refine Ev.up ?_
    simp only [spec_HasState.l0]
    refine Ev.ite_t (by omega) (Ev.ite_t (by omega) ?_)
    have hm : (l[i]).f2.length ≤ maxLen := Nat.le_trans (hs _ (List.getElem_mem _)) (by decide)
    have ea : l.getD i z46 = l[i] := by simp [hi]
    rw [ea] at h1 h2
    rw [rdIS hi]
    refine Ev.bind (specES _ _ hm) ?_
    refine Ev.ite (fun e => Ev.val (h2 e).symm) (fun e => ?_)
    rw [cast_succ hi (by omega)]
    exact h1 (by simpa using e)
theorem implIdx (l : List IS) (s : IS) (hl : l.length ≤ 1048576) (hs : ∀ s ∈ l, s.f2.length ≤ 1048576) : ∃ r : Int, Ev (fun k => impl_State_100_v1.f k l s.f0 s.f1 s.f2) r ∧ decide (r ≥ 0) = has l s := by
  unfold impl_State_100_v1.f has
  have key : ∀ d i, i + d = l.length → ∃ r : Int, Ev (fun k => impl_State_100_v1.l0 k l (l.length : Int) (i : Int) s.f0 s.f1 s.f2) r ∧ decide (r ≥ 0) = anyN (fun i => eqS (l.getD i z46) s) i d := by
    intro d
    induction d with
    | zero =>
      intro i hi
      refine ⟨-1, Ev.up ?_, rfl⟩
      simp only [impl_State_100_v1.l0]
      exact Ev.ite_f (by omega) (Ev.val rfl)
    | succ d ih =>
      intro i hi
      have hil : i < l.length := by omega
      have hm : (l[i]).f2.length ≤ maxLen := Nat.le_trans (hs _ (List.getElem_mem _)) (by decide)
      have ea : l.getD i z46 = l[i] := by simp [hil]
      have hc : Ev (fun k => impl_HasState_1_v2.f k (l[i]).f0 (l[i]).f1 (l[i]).f2 s.f0 s.f1 s.f2) (eqS l[i] s) := by
        unfold impl_HasState_1_v2.f
        exact Ev.bind (implES _ _ hm) (Ev.val rfl)
      simp only [anyN, ea]
      cases hq : eqS l[i] s with
      | true =>
        refine ⟨i, Ev.up ?_, by simp⟩
        simp only [impl_State_100_v1.l0]
        refine Ev.ite_t (by omega) (Ev.ite_t (by omega) (Ev.ite_t (by omega) ?_))
        rw [rdIS hil]
        exact Ev.bind hc (Ev.ite_t hq (Ev.val rfl))
      | false =>
        obtain ⟨r, hr, he⟩ := ih (i + 1) (by omega)
        refine ⟨r, Ev.up ?_, by simp [he]⟩
        simp only [impl_State_100_v1.l0]
        refine Ev.ite_t (by omega) (Ev.ite_t (by omega) (Ev.ite_t (by omega) ?_))
        rw [rdIS hil]
        refine Ev.bind hc (Ev.ite_f (by simp [hq]) ?_)
        rw [cast_succ hil (by omega)]
        exact hr
  exact key l.length 0 (by omega)
theorem implHas (l : List IS) (s : IS) (hl : l.length ≤ 1048576) (hs : ∀ s ∈ l, s.f2.length ≤ 1048576) : Ev (fun k => impl_HasState.f k l s.f0 s.f1 s.f2) (has l s) := by
  obtain ⟨r, hr, he⟩ := implIdx l s hl hs
  unfold impl_HasState.f impl_State_57_v0.f
  exact Ev.bind (Ev.bind hr (Ev.val he)) (Ev.val rfl)

theorem FnExactHasState : fnExactHasState.PureS := by
  intro l s hl hs
  obtain ⟨hl0, hl1⟩ := hl
  refine Ev.rounds ?_
  unfold laws_FnExactHasState.f
  obtain ⟨r, hr, hr'⟩ := szStS l 1048576 (by omega) (by omega) hl0 (fun s h => ⟨(hl1 s h).1, (hl1 s h).2.1, (hl1 s h).2.2.1⟩)
  refine Ev.bind hr ?_
  refine Ev.ite (fun _ => Ev.val rfl) (fun h => ?_)
  obtain ⟨h1, h2, h3⟩ := hr' (by omega)
  obtain ⟨q, hq⟩ := szSt_some s r
  refine Ev.bindc hq ?_
  refine Ev.ite (fun _ => Ev.val rfl) (fun h' => ?_)
  have h4 := (szSt hq (by omega) (by omega) h1 hs.1 hs.2.1 hs.2.2.1).2
  have h5 : ∀ x ∈ l.map conv, x.f2.length ≤ 1048576 := by
    intro x hx
    simp only [List.mem_map] at hx
    obtain ⟨y, hy, rfl⟩ := hx
    exact h3 y hy
  have e1 := toStS l h2 h3
  have e2 := toSt s (by omega)
  have hlm : (l.map conv).length ≤ 1048576 := by simpa using h2
  refine Ev.bind e1 (Ev.bind e2 (Ev.bind (specHas (l.map conv) (conv s) hlm h5) (Ev.bind e1 (Ev.bind e2 (Ev.bind (implHas (l.map conv) (conv s) hlm h5) ?_)))))
  rw [bool_ne_self]
  refine Ev.ite_f (by decide) (Ev.bind e1 (Ev.bind (eqSts _ _ hlm h5) ?_))
  have e3 : (decide ((l.map conv).length = (l.map conv).length) && allN (fun i => eqS ((l.map conv).getD i z46) ((l.map conv).getD i z46)) 0 (l.map conv).length) = true := by
    simp only [decide_true, Bool.true_and]
    exact allN_true _ _ (fun j _ _ => eqS_self _)
  rw [e3]
  refine Ev.ite_t rfl (Ev.bind e2 ?_)
  refine Ev.bind (lawES (conv s) (conv s) (Nat.le_trans (show s.f2.length ≤ 1048576 by omega) (by decide))) ?_
  rw [eqS_self]
  exact Ev.ite_t rfl (Ev.val rfl)

end Go.Proofs.Ytdepiibcopbjlaa.Pure
