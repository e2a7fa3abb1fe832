/- Comparing and copying lists of whole numbers and states. No statement of the seat is proved here. -/
import Derived.Test.YtdepiibcopbjlaaBFnExactEqualSearch
import Derived.Test.YtdepiibcopbjlaaPFnExactEqualSearchx
namespace Go.Proofs.Ytdepiibcopbjlaa.BFnExactEqualSearch
open Go.RowKit Go.Proofs.Ytdepiibcopbjlaa.PFnExactEqualSearch Go.Proofs.YtdepiibcopbjlaaW.PrintWords Go.Proofs.YtdepiibcopbjlaaW.PrintLast
set_option linter.unusedVariables false

abbrev LS := S40
abbrev IS := S46
def conv (s : LS) : IS := ⟨s.f0, s.f1, s.f2⟩
def eqI (a b : List Int) : Bool := decide (a.length = b.length) && allN (fun i => decide (rd a i = rd b i)) 0 a.length
def eqS (a b : IS) : Bool := decide (a.f0.toList = b.f0.toList) && (decide (a.f1.toList = b.f1.toList) && eqI a.f2 b.f2)
theorem eqI_self (a : List Int) : eqI a a = true := by simp [eqI, allN_true]
theorem eqS_self (a : IS) : eqS a a = true := by simp [eqS, eqI_self]

theorem specInts (a b : List Int) (ha : a.length ≤ maxLen) : Ev (fun k => spec_l5Ints.f k a b) (eqI a b) := by
  rw [maxLen_eq] at ha
  unfold spec_l5Ints.f
  refine Ev.ite (fun h => ?_) (fun h => Ev.val (by simp [eqI]; omega))
  have hl : a.length = b.length := by omega
  simp only [eqI, hl, decide_true, Bool.true_and]
  refine Ev.all (g := fun k i => spec_l5Ints.l0 k a b (i : Int)) (n := b.length) ?_ ?_ b.length 0 (by omega)
  · refine Ev.up ?_
    simp only [spec_l5Ints.l0]
    exact Ev.ite_f (by omega) (Ev.val rfl)
  · intro i hi r h1 h2
    refine Ev.up ?_
    simp only [spec_l5Ints.l0]
    refine Ev.ite_t (by omega) (Ev.ite_t (by omega) (Ev.ite_t (by omega) ?_))
    refine Ev.ite (fun e => ?_) (fun e => Ev.val (h2 (by simp [e])).symm)
    rw [cast_succ hi (by omega)]
    exact h1 (by simp [e])
theorem eqInts (a b : List Int) (ha : a.length ≤ maxLen) : Ev (fun k => laws_eqIntS.f k a b) (eqI a b) := by
  rw [maxLen_eq] at ha
  unfold laws_eqIntS.f
  refine Ev.ite (fun h => ?_) (fun h => Ev.val (by simp [eqI]; omega))
  have hl : a.length = b.length := by omega
  simp only [eqI, hl, decide_true, Bool.true_and]
  refine Ev.all (g := fun k i => laws_eqIntS.l0 k a b (i : Int)) (n := b.length) ?_ ?_ b.length 0 (by omega)
  · refine Ev.up ?_
    simp only [laws_eqIntS.l0]
    exact Ev.ite_f (by omega) (Ev.val rfl)
  · intro i hi r h1 h2
    refine Ev.up ?_
    simp only [laws_eqIntS.l0]
    refine Ev.ite_t (by omega) (Ev.ite_t (by omega) (Ev.ite_t (by omega) ?_))
    refine Ev.ite (fun e => ?_) (fun e => Ev.val (h2 (by simp [e])).symm)
    rw [cast_succ hi (by omega)]
    exact h1 (by simp [e])
theorem slEq (a b : List Int) (ha : a.length ≤ maxLen) : Ev (fun k => slices_Equal_int_int.f k a b) (eqI a b) := by
  rw [maxLen_eq] at ha
  unfold slices_Equal_int_int.f
  refine Ev.ite (fun h => ?_) (fun h => Ev.val (by simp [eqI]; omega))
  have hl : a.length = b.length := by omega
  simp only [eqI, hl, decide_true, Bool.true_and]
  refine Ev.all (g := fun k i => slices_Equal_int_int.l0 k a b (b.length : Int) (i : Int)) (n := b.length) ?_ ?_ b.length 0 (by omega)
  · refine Ev.up ?_
    simp only [slices_Equal_int_int.l0]
    exact Ev.ite_f (by omega) (Ev.val rfl)
  · intro i hi r h1 h2
    refine Ev.up ?_
    simp only [slices_Equal_int_int.l0]
    refine Ev.ite_t (by omega) (Ev.ite_t (by omega) (Ev.ite_t (by omega) (Ev.ite_t (by omega) ?_)))
    refine Ev.ite (fun e => ?_) (fun e => Ev.val (h2 (by simp [e])).symm)
    rw [cast_succ hi (by omega)]
    exact h1 (by simp [e])
theorem specES (a b : IS) (ha : a.f2.length ≤ maxLen) : Ev (fun k => spec_EqualState.f k a.f0 a.f1 a.f2 b.f0 b.f1 b.f2) (eqS a b) := by
  unfold spec_EqualState.f
  refine Ev.ite (fun h => ?_) (fun h => Ev.val (by simp [eqS, h]))
  refine Ev.ite (fun h' => ?_) (fun h' => Ev.val (by simp [eqS, h']))
  exact Ev.bind (specInts _ _ ha) (Ev.val (by simp [eqS, h, h']))
theorem implES (a b : IS) (ha : a.f2.length ≤ maxLen) : Ev (fun k => impl_EqualState.f k a.f0 a.f1 a.f2 b.f0 b.f1 b.f2) (eqS a b) := by
  unfold impl_EqualState.f
  refine Ev.ite (fun h => ?_) (fun h => Ev.val (by simp [eqS, h]))
  refine Ev.ite (fun h' => ?_) (fun h' => Ev.val (by simp [eqS, h']))
  exact Ev.bind (slEq _ _ ha) (Ev.val (by simp [eqS, h, h']))
theorem lawES (a b : IS) (ha : a.f2.length ≤ maxLen) : Ev (fun k => laws_eqState.f k a.f0 a.f1 a.f2 b.f0 b.f1 b.f2) (eqS a b) := by
  unfold laws_eqState.f
  refine Ev.ite (fun h => ?_) (fun h => Ev.val (by simp [eqS, h]))
  refine Ev.ite (fun h' => ?_) (fun h' => Ev.val (by simp [eqS, h']))
  refine Ev.bind (eqInts _ _ ha) ?_
  refine Ev.ite (fun e => Ev.val (by simp [eqS, h, h', e])) (fun e => Ev.val (by simp [eqS, h, h', e]))

theorem toInts (l : List Int) (hl : l.length ≤ 1048576) : Ev (fun k => laws_toIntS.f k l) l := by
  unfold laws_toIntS.f
  refine Ev.ite_t (by omega) (Ev.ite_t (by omega) ?_)
  refine Ev.fill (g := fun k i out => laws_toIntS.l0 k l out (i : Int)) (n := l.length) (F := fun i => rd l i) l rfl ?_ ?_ ?_ l.length 0 _ (by omega) (by simp) (fun j hj => by omega)
  · intro j hj
    simp [rd, hj]
  · refine Ev.up ?_
    simp only [laws_toIntS.l0]
    exact Ev.ite_f (by omega) (Ev.val rfl)
  · intro i out hi ho h
    refine Ev.up ?_
    simp only [laws_toIntS.l0]
    refine Ev.ite_t (by omega) (Ev.ite_t (by omega) (Ev.ite_t (by omega) ?_))
    rw [cast_succ hi (by omega)]
    exact h
theorem toSt (s : LS) (hl : s.f2.length ≤ 1048576) : Ev (fun k => laws_toState.f k s.f0 s.f1 s.f2) (s.f0, s.f1, s.f2) := by
  unfold laws_toState.f
  exact Ev.bind (toInts _ hl) (Ev.val rfl)
theorem rdLS {l : List LS} {i : Nat} (h : i < l.length) : rd_T40 l (i : Int) = l[i] := by
  simp [rd_T40, h]
theorem rdIS {l : List IS} {i : Nat} (h : i < l.length) : rd_T46 l (i : Int) = l[i] := by
  simp [rd_T46, h]
theorem toStS (l : List LS) (hl : l.length ≤ 1048576) (hs : ∀ s ∈ l, s.f2.length ≤ 1048576) : Ev (fun k => laws_toStateS.f k l) (l.map conv) := by
  unfold laws_toStateS.f
  refine Ev.ite_t (by omega) (Ev.ite_t (by omega) ?_)
  refine Ev.fill (g := fun k i out => laws_toStateS.l0 k l out (i : Int)) (n := l.length) (F := fun i => conv (l.getD i z40)) (l.map conv) (by simp) ?_ ?_ ?_ l.length 0 _ (by omega) (by simp) (fun j hj => by omega)
  · intro j hj
    simp [hj]
  · refine Ev.up ?_
    simp only [laws_toStateS.l0]
    exact Ev.ite_f (by omega) (Ev.val rfl)
  · intro i out hi ho h
    refine Ev.up ?_
    simp only [laws_toStateS.l0]
    refine Ev.ite_t (by omega) (Ev.ite_t (by omega) ?_)
    rw [rdLS hi]
    refine Ev.bind (toSt _ (hs _ (List.getElem_mem _))) ?_
    refine Ev.ite_t (by omega) ?_
    rw [cast_succ hi (by omega)]
    have e : conv (l.getD i z40) = (⟨(l[i]).f0, (l[i]).f1, (l[i]).f2⟩ : IS) := by simp [conv, hi]
    rw [e] at h
    exact h
theorem eqSts (a b : List IS) (ha : a.length ≤ 1048576) (hs : ∀ s ∈ a, s.f2.length ≤ 1048576) : Ev (fun k => laws_eqStateS.f k a b) (decide (a.length = b.length) && allN (fun i => eqS (a.getD i z46) (b.getD i z46)) 0 a.length) := by
  unfold laws_eqStateS.f
  refine Ev.ite (fun h => ?_) (fun h => Ev.val (by have : ¬ a.length = b.length := by omega
                                                   simp [this]))
  have hl : a.length = b.length := by omega
  simp only [hl, decide_true, Bool.true_and]
  refine Ev.all (g := fun k i => laws_eqStateS.l0 k a b (i : Int)) (n := b.length) ?_ ?_ b.length 0 (by omega)
  · refine Ev.up ?_
    simp only [laws_eqStateS.l0]
    exact Ev.ite_f (by omega) (Ev.val rfl)
  · intro i hi r h1 h2
    refine Ev.up ?_
    simp only [laws_eqStateS.l0]
    refine Ev.ite_t (by omega) (Ev.ite_t (by omega) (Ev.ite_t (by omega) ?_))
    have hi' : i < a.length := by omega
    have hm : (a[i]).f2.length ≤ maxLen := Nat.le_trans (hs _ (List.getElem_mem _)) (by decide)
    rw [rdIS hi', rdIS hi]
    have ea : a.getD i z46 = a[i] := by simp [hi']
    have eb : b.getD i z46 = b[i] := by simp [hi]
    rw [ea, eb] at h1 h2
    refine Ev.bind (lawES _ _ hm) ?_
    refine Ev.ite (fun e => ?_) (fun e => Ev.val (h2 (by simpa using e)).symm)
    rw [cast_succ hi (by omega)]
    exact h1 e

/-- the sizes that 'szIntS', 'szState', 'szStateS' count -/
theorem szInts {l : List Int} {a r : Int} (h : laws_szIntS.f l a = some r) (hr : 0 ≤ r) (ha : 0 ≤ a) (ha' : a ≤ 1048576) (hl : l.length ≤ maxLen) : r ≤ a ∧ (l.length : Int) ≤ a := by
  rw [maxLen_eq] at hl
  unfold laws_szIntS.f at h
  rw [wrap_id (by omega) (by omega)] at h
  split at h <;> injection h with h <;> omega
theorem szInts_some (l : List Int) (a : Int) : ∃ r, laws_szIntS.f l a = some r := by
  unfold laws_szIntS.f
  split <;> exact ⟨_, rfl⟩
theorem szSt_some (s : LS) (a : Int) : ∃ r, laws_szState.f s.f0 s.f1 s.f2 a = some r := by
  unfold laws_szState.f
  split
  · exact ⟨_, rfl⟩
  · split
    · exact ⟨_, rfl⟩
    · obtain ⟨r, hr⟩ := szInts_some s.f2 (wrap64 ((wrap64 (a - (s.f0.size : Int))) - (s.f1.size : Int)))
      rw [hr]
      simp only [Option.bind_some]
      split <;> exact ⟨_, rfl⟩
theorem szSt {s : LS} {a r : Int} (h : laws_szState.f s.f0 s.f1 s.f2 a = some r) (hr : 0 ≤ r) (ha : 0 ≤ a) (ha' : a ≤ 1048576) (h0 : s.f0.size ≤ maxLen) (h1 : s.f1.size ≤ maxLen) (h2 : s.f2.length ≤ maxLen) : r ≤ a ∧ (s.f2.length : Int) ≤ 1048576 := by
  rw [maxLen_eq] at h0 h1
  unfold laws_szState.f at h
  rw [wrap_id (n := a - (s.f0.size : Int)) (by omega) (by omega)] at h
  split at h
  · injection h with h; omega
  · rw [wrap_id (n := a - (s.f0.size : Int) - (s.f1.size : Int)) (by omega) (by omega)] at h
    split at h
    · injection h with h; omega
    · obtain ⟨q, hq⟩ := szInts_some s.f2 (a - (s.f0.size : Int) - (s.f1.size : Int))
      rw [hq] at h
      simp only [Option.bind_some] at h
      split at h
      · injection h with h; omega
      · injection h with h
        subst h
        have := szInts hq (by omega) (by omega) (by omega) h2
        omega
def okLS (s : LS) : Prop := s.f0.size ≤ maxLen ∧ s.f1.size ≤ maxLen ∧ s.f2.length ≤ maxLen
theorem szStS (l : List LS) (a : Int) (ha : 0 ≤ a) (ha' : a ≤ 1048576) (hl : l.length ≤ maxLen) (ho : ∀ s ∈ l, okLS s) :
    ∃ r, Ev (fun k => laws_szStateS.f k l a) r ∧ (0 ≤ r → r ≤ a ∧ l.length ≤ 1048576 ∧ ∀ s ∈ l, s.f2.length ≤ 1048576) := by
  have hl' := hl
  rw [maxLen_eq] at hl'
  unfold laws_szStateS.f
  by_cases h : wrap64 (a - (l.length : Int)) < 0
  · exact ⟨-1, Ev.ite_t h (Ev.val rfl), fun h => by omega⟩
  rw [wrap_id (by omega) (by omega)] at h ⊢
  have key : ∀ d i b, i + d = l.length → 0 ≤ b → b ≤ 1048576 → ∃ r, Ev (fun k => laws_szStateS.l0 k l b (i : Int)) r ∧ (0 ≤ r → r ≤ b ∧ ∀ j, i ≤ j → ∀ hj : j < l.length, (l[j]).f2.length ≤ 1048576) := by
    intro d
    induction d with
    | zero =>
      intro i b hi h0 h1
      refine ⟨b, Ev.up ?_, fun _ => ⟨by omega, fun j h2 h3 => by omega⟩⟩
      simp only [laws_szStateS.l0]
      exact Ev.ite_f (by omega) (Ev.val rfl)
    | succ d ih =>
      intro i b hi h0 h1
      have hil : i < l.length := by omega
      obtain ⟨q, hq⟩ := szSt_some l[i] b
      have ok := ho _ (List.getElem_mem hil)
      by_cases hneg : q < 0
      · refine ⟨-1, Ev.up ?_, fun h => by omega⟩
        simp only [laws_szStateS.l0]
        refine Ev.ite_t (by omega) (Ev.ite_t (by omega) ?_)
        rw [rdLS hil]
        exact Ev.bindc hq (Ev.ite_t hneg (Ev.val rfl))
      · have hz := szSt hq (by omega) h0 h1 ok.1 ok.2.1 ok.2.2
        obtain ⟨r, hr, hr'⟩ := ih (i + 1) q (by omega) (by omega) (by omega)
        refine ⟨r, Ev.up ?_, fun h => ⟨by have := (hr' h).1; omega, fun j h2 h3 => ?_⟩⟩
        · simp only [laws_szStateS.l0]
          refine Ev.ite_t (by omega) (Ev.ite_t (by omega) ?_)
          rw [rdLS hil]
          refine Ev.bindc hq (Ev.ite_f hneg ?_)
          rw [cast_succ hil (by omega)]
          exact hr
        · by_cases e : j = i
          · subst e; omega
          · exact (hr' h).2 j (by omega) h3
  obtain ⟨r, hr, hr'⟩ := key l.length 0 (a - (l.length : Int)) (by omega) (by omega) (by omega)
  refine ⟨r, Ev.ite_f h hr, fun h0 => ⟨by have := (hr' h0).1; omega, by omega, fun s hs => ?_⟩⟩
  obtain ⟨j, hj, rfl⟩ := List.getElem_of_mem hs
  exact (hr' h0).2 j (by omega) hj

end Go.Proofs.Ytdepiibcopbjlaa.BFnExactEqualSearch
