/- Proved: for every frame, state and values, the program's FitsState returns what the reference's FitsState returns, and leaves its arguments as they were. Conditions: lengths fit an int (given with every input). -/
import Derived.Test.YtdepiibcopbjlaaBOFnExactFitsState
import Derived.Test.YtdepiibcopbjlaaBVFnExactFitsState
import Derived.Test.YtdepiibcopbjlaaBFFnExactFitsState
import Derived.Test.YtdepiibcopbjlaaOpenFnExactFitsState
namespace Go.Proofs.Ytdepiibcopbjlaa.Pure
open Go.RowKit Go.Proofs.Ytdepiibcopbjlaa.PFnExactFitsState Go.Proofs.Ytdepiibcopbjlaa.BFnExactFitsState Go.Proofs.YtdepiibcopbjlaaW.PrintWords Go.Proofs.YtdepiibcopbjlaaW.PrintLast
set_option linter.unusedVariables false

def lit (M : List (List Int)) (L : List Int) (P : List (List Int)) (A B C : ByteArray) (l : List Int) (i : Nat) : Bool :=
  let m := mapO M L P (vof A B C (bt (⟨#[88, 89, 90]⟩ : ByteArray) (i : Int)))
  m.2 && decide (m.1 = rd l (i : Int))
theorem fits (u v : ByteArray) (M : List (List Int)) (L : List Int) (P R : List (List Int)) (p q : ByteArray) (l : List Int) (A B C : ByteArray)
    (hM : okL M) (hL : L.length ≤ 1048576) (hP : okL P) (hl : l.length ≤ 1048576) (hp : p.size ≤ maxLen) (hq : q.size ≤ maxLen) (hA : A.size ≤ 1048576) (hB : B.size ≤ 1048576) (hC : C.size ≤ 1048576) :
    ∃ r : Bool, Ev (fun k => spec_FitsState.f k u v M L P R p q l A B C) r ∧ Ev (fun k => impl_FitsState.f k u v M L P R p q l A B C) r := by
  have hv : ∀ b, (vof A B C b).size ≤ maxLen := fun b => Nat.le_trans (vof_size hA hB hC) (by decide)
  obtain ⟨x, sx, ix, _⟩ := applyV A B C p hA hB hC hp
  obtain ⟨y, sy, iy, _⟩ := applyV A B C q hA hB hC hq
  have sf : Ev (fun k => spec_FitsState.j0 k true u v M L P R p q l A B C) false := by
    refine Ev.up ?_
    simp only [spec_FitsState.j0]
    exact Ev.ite_t (by simp) (Ev.val rfl)
  have jf : Ev (fun k => impl_FitsState.j0 k true u v M L P R p q l A B C) false := by
    refine Ev.up ?_
    simp only [impl_FitsState.j0]
    exact Ev.ite_t (by simp) (Ev.val rfl)
  unfold spec_FitsState.f impl_FitsState.f
  cases g : gd M L P with
  | false =>
    have sg := specGood M L P hM.1 hL hP.2
    have ig := implGood M L P hM.1 hL hP.2
    rw [g] at sg ig
    exact ⟨false, Ev.bind sg (Ev.ite_f (by simp) sf), Ev.bind ig (Ev.ite_f (by simp) jf)⟩
  | true =>
    have sg := specGood M L P hM.1 hL hP.2
    have ig := implGood M L P hM.1 hL hP.2
    rw [g] at sg ig
    by_cases h3 : (l.length : Int) = 3
    rotate_left
    · refine ⟨false, Ev.bind sg (Ev.ite_t rfl ?_), Ev.bind ig (Ev.ite_t rfl (Ev.ite_f h3 jf))⟩
      have : ((l.length : Int) != 3) = true := by simpa using h3
      rw [this]
      exact sf
    have h3' : l.length = 3 := by omega
    refine ⟨allN (lit M L P A B C l) 0 3 && (x.toList == y.toList), Ev.bind sg (Ev.ite_t rfl ?_), Ev.bind ig (Ev.ite_t rfl (Ev.ite_t h3 (Ev.bind ix (Ev.bind iy ?_))))⟩
    · have : ((l.length : Int) != 3) = false := by simpa using h3
      rw [this]
      refine Ev.up ?_
      simp only [spec_FitsState.j0]
      refine Ev.ite_f (by simp) ?_
      refine Ev.allE (g := fun k i => spec_FitsState.l0 k (i : Int) u v M L P R p q l A B C) (n := 3) ?_ ?_ 3 0 (by omega)
      · refine Ev.up ?_
        simp only [spec_FitsState.l0]
        exact Ev.ite_f (by omega) (Ev.bind sx (Ev.bind sy (Ev.val rfl)))
      · intro i hi r h1 h2
        refine Ev.up ?_
        simp only [spec_FitsState.l0]
        refine Ev.ite_t (by omega) (Ev.ite_t (by omega) (Ev.bindc (specVal _ _ _ _) (Ev.bind (specMap M L P hM.1 hL hP.2 _ (hv _)) ?_)))
        refine Ev.ite (fun e => ?_) (fun e => Ev.val (h2 (by simp only [lit]; simp [e])).symm)
        refine Ev.ite_t (by omega) (Ev.ite (fun e' => ?_) (fun e' => Ev.val (h2 (by simp only [lit]; simp [e'])).symm))
        rw [cast_succ (i := i) (n := 3) hi (by omega)]
        exact h1 (by simp only [lit]; simp [e, e'])
    · cases hxy : (x.toList == y.toList) with
      | false =>
        have : (x.toList != y.toList) = true := by simp [bne, hxy]
        rw [this]
        exact Ev.eq jf (by simp)
      | true =>
        have : (x.toList != y.toList) = false := by simp [bne, hxy]
        rw [this]
        refine Ev.up ?_
        simp only [impl_FitsState.j0]
        refine Ev.ite_f (by simp) ?_
        refine Ev.allE (g := fun k i => impl_FitsState.l0 k l (l.length : Int) (i : Int) u v M L P R A B C) (n := 3) ?_ ?_ 3 0 (by omega)
        · refine Ev.up ?_
          simp only [impl_FitsState.l0]
          exact Ev.ite_f (by omega) (Ev.val rfl)
        · intro i hi r h1 h2
          refine Ev.up ?_
          simp only [impl_FitsState.l0]
          refine Ev.ite_t (by omega) (Ev.ite_t (by omega) (Ev.ite_t (by omega) (Ev.ite_t (by omega) (Ev.bindc (implVal _ _ _ _) (Ev.bind (implMap M L P hM.1 hL hP.2 _ (hv _)) ?_)))))
          refine Ev.ite (fun e => ?_) (fun e => Ev.val (h2 (by simp only [lit]; simp [e])).symm)
          refine Ev.ite (fun e' => ?_) (fun e' => Ev.val (h2 (by simp only [lit]; simp [e'])).symm)
          rw [cast_succ (i := i) (n := 3) hi (by omega)]
          exact h1 (by simp only [lit]; simp [e, e'])

theorem FnExactFitsState : fnExactFitsState.PureS := by
  intro f s v hf hs hv
  obtain ⟨⟨hu, hw⟩, ⟨⟨hM, hM'⟩, ⟨hL, _⟩, ⟨hP, hP'⟩⟩, ⟨hR, hR'⟩⟩ := hf
  obtain ⟨hp, hq, hl, _⟩ := hs
  obtain ⟨vA, vB, vC⟩ := hv
  refine Ev.rounds ?_
  unfold laws_FnExactFitsState.f
  obtain ⟨r, hr, hr'⟩ := szFrame f.f0.f0 f.f0.f1 f.f1.f0 f.f1.f1 f.f1.f2 f.f2 1048576 (by omega) (by omega) hu hw hM (fun z hz => (hM' z hz).1) hL hP (fun z hz => (hP' z hz).1) hR (fun z hz => (hR' z hz).1)
  refine Ev.bind hr ?_
  refine Ev.ite (fun _ => Ev.val rfl) (fun h => ?_)
  obtain ⟨r0, _, _, oM, oL, oP, oR⟩ := hr' (by omega)
  obtain ⟨t, ht, ht'⟩ := szStateE s.f0 s.f1 s.f2 r (by omega) (by omega) hp hq hl
  refine Ev.bindc ht ?_
  refine Ev.ite (fun _ => Ev.val rfl) (fun h' => ?_)
  obtain ⟨t0, _, _, ol⟩ := ht' (by omega)
  obtain ⟨z, hz⟩ := szVal_some v.f0 v.f1 v.f2 t
  refine Ev.bindc hz ?_
  refine Ev.ite (fun _ => Ev.val rfl) (fun h'' => ?_)
  obtain ⟨_, oA, oB, oC⟩ := szVal hz (by omega) (by omega) (by omega) vA vB vC
  have e1 := toFra f.f0.f0 f.f0.f1 f.f1.f0 f.f1.f1 f.f1.f2 f.f2 oM oL oP oR
  have e2 := toSta s.f0 s.f1 s.f2 ol
  have e3 : laws_toValues.f v.f0 v.f1 v.f2 = some (v.f0, v.f1, v.f2) := rfl
  obtain ⟨b, hb1, hb2⟩ := fits f.f0.f0 f.f0.f1 f.f1.f0 f.f1.f1 f.f1.f2 f.f2 s.f0 s.f1 s.f2 v.f0 v.f1 v.f2 oM oL oP ol hp hq oA oB oC
  refine Ev.bind e1 (Ev.bind e2 (Ev.bindc e3 (Ev.bind hb1 (Ev.bind e1 (Ev.bind e2 (Ev.bindc e3 (Ev.bind hb2 ?_)))))))
  rw [bool_ne_self]
  refine Ev.ite_f (by decide) (Ev.bind e1 (Ev.bind (eqFra f.f0.f0 f.f0.f1 f.f1.f0 f.f1.f1 f.f1.f2 f.f2 oM oL oP oR) (Ev.ite_t rfl (Ev.bind e2 (Ev.bind (eqSta s.f0 s.f1 s.f2 ol) (Ev.ite_t rfl (Ev.val rfl)))))))

end Go.Proofs.Ytdepiibcopbjlaa.Pure
