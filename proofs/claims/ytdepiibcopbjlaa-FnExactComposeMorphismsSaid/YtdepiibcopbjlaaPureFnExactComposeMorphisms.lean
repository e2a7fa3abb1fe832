/- Proved: for all pairs of morphisms, the program's ComposeMorphisms returns what the reference's ComposeMorphisms returns. Conditions: lengths fit an int (given with every input). -/
import Derived.Test.YtdepiibcopbjlaaBAFnExactComposeMorphisms
import Derived.Test.YtdepiibcopbjlaaBMFnExactComposeMorphisms
import Derived.Test.YtdepiibcopbjlaaOpenFnExactComposeMorphisms
namespace Go.Proofs.Ytdepiibcopbjlaa.Pure
open Go.RowKit Go.Proofs.Ytdepiibcopbjlaa.PFnExactComposeMorphisms Go.Proofs.Ytdepiibcopbjlaa.BFnExactComposeMorphisms Go.Proofs.YtdepiibcopbjlaaW.PrintWords Go.Proofs.YtdepiibcopbjlaaW.PrintLast
set_option linter.unusedVariables false
set_option linter.unusedSimpArgs false

theorem compose (a b c x y z : ByteArray) (ha : a.size ≤ 1048576) (hb : b.size ≤ 1048576) (hc : c.size ≤ 1048576) (hx : x.size ≤ 1048576) (hy : y.size ≤ 1048576) (hz : z.size ≤ 1048576) :
    ∃ r : ByteArray × ByteArray × ByteArray × Bool, Ev (fun k => spec_ComposeMorphisms.f k a b c x y z) r ∧ Ev (fun k => impl_ComposeMorphisms.f k a b c x y z) r := by
  have big : ∀ n : Nat, n ≤ 1048576 → n ≤ maxLen := fun n h => Nat.le_trans h (by decide)
  obtain ⟨p, p1, p2, p3⟩ := applyM x y z a hx hy hz (big _ ha)
  obtain ⟨q, q1, q2, q3⟩ := applyM x y z b hx hy hz (big _ hb)
  obtain ⟨r, r1, r2, r3⟩ := applyM x y z c hx hy hz (big _ hc)
  have m1 := specMor a b c (big _ ha) (big _ hb) (big _ hc)
  have m2 := specMor x y z (big _ hx) (big _ hy) (big _ hz)
  have m3 := specMor p q r (big _ p3) (big _ q3) (big _ r3)
  have n1 := implMor a b c (big _ ha) (big _ hb) (big _ hc)
  have n2 := implMor x y z (big _ hx) (big _ hy) (big _ hz)
  have n3 := implMor p q r (big _ p3) (big _ q3) (big _ r3)
  let e : ByteArray := ⟨#[]⟩
  refine ⟨if mor a b c = true ∧ mor x y z = true ∧ mor p q r = true then (p, q, r, true) else (e, e, e, false), ?_, ?_⟩
  · unfold spec_ComposeMorphisms.f
    refine Ev.bind m1 ?_
    by_cases h1 : mor a b c = true
    · refine Ev.ite_t h1 (Ev.bind m2 (Ev.up ?_))
      simp only [spec_ComposeMorphisms.j0]
      by_cases h2 : mor x y z = true
      · rw [h2]
        refine Ev.ite_f (by decide) (Ev.bind p1 (Ev.bind q1 (Ev.bind r1 (Ev.bind m3 ?_))))
        refine Ev.ite (fun h3 => Ev.val (by simp [h1, h2, h3])) (fun h3 => Ev.val (by simp [h3]; rfl))
      · exact Ev.ite_t (by simp [h2]) (Ev.val (by simp [h2]; rfl))
    · refine Ev.ite_f h1 (Ev.up ?_)
      simp only [spec_ComposeMorphisms.j0]
      exact Ev.ite_t (by simp) (Ev.val (by simp [h1]; rfl))
  · unfold impl_ComposeMorphisms.f
    refine Ev.bind p2 (Ev.bind q2 (Ev.bind r2 (Ev.bind n1 ?_)))
    refine Ev.ite (fun h1 => Ev.bind n2 ?_) (fun h1 => Ev.val (by simp [h1]; rfl))
    refine Ev.ite (fun h2 => Ev.bind n3 ?_) (fun h2 => Ev.val (by simp [h2]; rfl))
    exact Ev.ite (fun h3 => Ev.val (by simp [h1, h2, h3])) (fun h3 => Ev.val (by simp [h3]; rfl))

theorem FnExactComposeMorphisms : fnExactComposeMorphisms.PureS := by
  intro m n hm hn
  refine Ev.rounds ?_
  unfold laws_FnExactComposeMorphisms.f
  obtain ⟨z, hz⟩ := szMor_some m.f0 m.f1 m.f2 1048576
  refine Ev.bindc hz ?_
  refine Ev.ite (fun _ => Ev.val rfl) (fun h => ?_)
  obtain ⟨hzl, hA, hB, hC⟩ := szMor hz (by omega) (by omega) (by omega) hm.1 hm.2.1 hm.2.2
  obtain ⟨z', hz'⟩ := szMor_some n.f0 n.f1 n.f2 z
  refine Ev.bindc hz' ?_
  refine Ev.ite (fun _ => Ev.val rfl) (fun h' => ?_)
  obtain ⟨_, hX, hY, hZ⟩ := szMor hz' (by omega) (by omega) (by omega) hn.1 hn.2.1 hn.2.2
  unfold laws_toMorphism.f
  simp only [Option.bind_some]
  obtain ⟨r, h1, h2⟩ := compose m.f0 m.f1 m.f2 n.f0 n.f1 n.f2 hA hB hC hX hY hZ
  refine Ev.bind h1 (Ev.bind h2 ?_)
  have e : laws_eqMorphism.f r.1 r.2.1 r.2.2.1 r.1 r.2.1 r.2.2.1 = some true := by
    unfold laws_eqMorphism.f
    rw [if_pos rfl, if_pos rfl, if_pos rfl]
  refine Ev.bindc e (Ev.ite_t rfl ?_)
  rw [bool_ne_self]
  exact Ev.ite_f (by decide) (Ev.val rfl)

end Go.Proofs.Ytdepiibcopbjlaa.Pure
