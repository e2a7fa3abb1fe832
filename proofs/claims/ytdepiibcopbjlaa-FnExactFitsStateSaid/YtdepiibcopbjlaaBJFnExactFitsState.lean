/- Lists of lists of whole numbers: compared, copied, counted. No statement of the seat is proved here. -/
import Derived.Test.YtdepiibcopbjlaaBIFnExactFitsState
namespace Go.Proofs.Ytdepiibcopbjlaa.BFnExactFitsState
open Go.RowKit Go.Proofs.Ytdepiibcopbjlaa.PFnExactFitsState Go.Proofs.YtdepiibcopbjlaaW.PrintWords Go.Proofs.YtdepiibcopbjlaaW.PrintLast
set_option linter.unusedVariables false

theorem rdL1 {l : List (List Int)} {i : Nat} (h : i < l.length) : rd_L1 l (i : Int) = l[i] := by
  simp [rd_L1, h]
def eqII (a b : List (List Int)) : Bool := decide (a.length = b.length) && allN (fun i => eqI (rd_L1 a i) (rd_L1 b i)) 0 a.length
theorem eqII_self (a : List (List Int)) : eqII a a = true := by simp [eqII, allN_true, eqI_self]
theorem eqIntss (a b : List (List Int)) (ha : a.length ≤ maxLen) (hs : ∀ z ∈ a, z.length ≤ maxLen) : Ev (fun k => laws_eqIntSS.f k a b) (eqII a b) := by
  rw [maxLen_eq] at ha
  unfold laws_eqIntSS.f
  refine Ev.ite (fun h => ?_) (fun h => Ev.val (by simp [eqII]; omega))
  have hl : a.length = b.length := by omega
  simp only [eqII, hl, decide_true, Bool.true_and]
  refine Ev.all (g := fun k i => laws_eqIntSS.l0 k a b (i : Int)) (n := b.length) ?_ ?_ b.length 0 (by omega)
  · refine Ev.up ?_
    simp only [laws_eqIntSS.l0]
    exact Ev.ite_f (by omega) (Ev.val rfl)
  · intro i hi r h1 h2
    refine Ev.up ?_
    simp only [laws_eqIntSS.l0]
    refine Ev.ite_t (by omega) (Ev.ite_t (by omega) (Ev.ite_t (by omega) ?_))
    have hi' : i < a.length := by omega
    refine Ev.bind (eqInts _ _ (by rw [rdL1 hi']; exact hs _ (List.getElem_mem _))) ?_
    refine Ev.ite (fun e => ?_) (fun e => Ev.val (h2 (by simpa using e)).symm)
    rw [cast_succ hi (by omega)]
    exact h1 e
theorem toIntss (l : List (List Int)) (hl : l.length ≤ 1048576) (hs : ∀ z ∈ l, z.length ≤ 1048576) : Ev (fun k => laws_toIntSS.f k l) l := by
  unfold laws_toIntSS.f
  refine Ev.ite_t (by omega) (Ev.ite_t (by omega) ?_)
  refine Ev.fill (g := fun k i out => laws_toIntSS.l0 k l out (i : Int)) (n := l.length) (F := fun i => rd_L1 l i) l rfl ?_ ?_ ?_ l.length 0 _ (by omega) (by simp) (fun j hj => by omega)
  · intro j hj
    simp [rd_L1, hj]
  · refine Ev.up ?_
    simp only [laws_toIntSS.l0]
    exact Ev.ite_f (by omega) (Ev.val rfl)
  · intro i out hi ho h
    refine Ev.up ?_
    simp only [laws_toIntSS.l0]
    refine Ev.ite_t (by omega) (Ev.ite_t (by omega) (Ev.bind (toInts _ (by rw [rdL1 hi]; exact hs _ (List.getElem_mem _))) (Ev.ite_t (by omega) ?_)))
    rw [cast_succ hi (by omega)]
    exact h
theorem szII (l : List (List Int)) (a : Int) (ha : 0 ≤ a) (ha' : a ≤ 1048576) (hl : l.length ≤ maxLen) (ho : ∀ z ∈ l, z.length ≤ maxLen) :
    ∃ r, Ev (fun k => laws_szIntSS.f k l a) r ∧ (0 ≤ r → r ≤ a ∧ l.length ≤ 1048576 ∧ ∀ z ∈ l, z.length ≤ 1048576) := by
  have hl' := hl
  rw [maxLen_eq] at hl'
  unfold laws_szIntSS.f
  by_cases h : wrap64 (a - (l.length : Int)) < 0
  · exact ⟨-1, Ev.ite_t h (Ev.val rfl), fun h => by omega⟩
  rw [wrap_id (by omega) (by omega)] at h ⊢
  have key : ∀ d i b, i + d = l.length → 0 ≤ b → b ≤ 1048576 → ∃ r, Ev (fun k => laws_szIntSS.l0 k l b (i : Int)) r ∧ (0 ≤ r → r ≤ b ∧ ∀ j, i ≤ j → ∀ hj : j < l.length, (l[j]).length ≤ 1048576) := by
    intro d
    induction d with
    | zero =>
      intro i b hi h0 h1
      refine ⟨b, Ev.up ?_, fun _ => ⟨by omega, fun j h2 h3 => by omega⟩⟩
      simp only [laws_szIntSS.l0]
      exact Ev.ite_f (by omega) (Ev.val rfl)
    | succ d ih =>
      intro i b hi h0 h1
      have hil : i < l.length := by omega
      obtain ⟨q, hq, hz⟩ := szI l[i] b h0 h1 (ho _ (List.getElem_mem hil))
      by_cases hneg : q < 0
      · refine ⟨-1, Ev.up ?_, fun h => by omega⟩
        simp only [laws_szIntSS.l0]
        refine Ev.ite_t (by omega) (Ev.ite_t (by omega) ?_)
        rw [rdL1 hil]
        exact Ev.bindc hq (Ev.ite_t hneg (Ev.val rfl))
      · have hz := hz (by omega)
        obtain ⟨r, hr, hr'⟩ := ih (i + 1) q (by omega) (by omega) (by omega)
        refine ⟨r, Ev.up ?_, fun h => ⟨by have := (hr' h).1; omega, fun j h2 h3 => ?_⟩⟩
        · simp only [laws_szIntSS.l0]
          refine Ev.ite_t (by omega) (Ev.ite_t (by omega) ?_)
          rw [rdL1 hil]
          refine Ev.bindc hq (Ev.ite_f hneg ?_)
          rw [cast_succ hil (by omega)]
          exact hr
        · by_cases e : j = i
          · subst e; omega
          · exact (hr' h).2 j (by omega) h3
  obtain ⟨r, hr, hr'⟩ := key l.length 0 (a - (l.length : Int)) (by omega) (by omega) (by omega)
  refine ⟨r, Ev.ite_f h hr, fun h0 => ⟨by have := (hr' h0).1; omega, by omega, fun s hs => ?_⟩⟩
  obtain ⟨j, hj, rfl⟩ := List.getElem_of_mem hs
  exact (hr' h0).2 j (by omega) hj

end Go.Proofs.Ytdepiibcopbjlaa.BFnExactFitsState
