/- Proved: for every morphism and every string, the program's ApplyMorphism returns what the reference's ApplyMorphism returns. Conditions: lengths fit an int (given with every input). -/
import Derived.Test.YtdepiibcopbjlaaBAFnExactApplyMorphism
import Derived.Test.YtdepiibcopbjlaaOpenFnExactApplyMorphism
namespace Go.Proofs.Ytdepiibcopbjlaa.Pure
open Go.RowKit Go.Proofs.Ytdepiibcopbjlaa.PFnExactApplyMorphism Go.Proofs.Ytdepiibcopbjlaa.BFnExactApplyMorphism Go.Proofs.YtdepiibcopbjlaaW.PrintWords Go.Proofs.YtdepiibcopbjlaaW.PrintLast
set_option linter.unusedVariables false

theorem FnExactApplyMorphism : fnExactApplyMorphism.PureS := by
  intro m s hm hs
  refine Ev.rounds ?_
  unfold laws_FnExactApplyMorphism.f
  refine Ev.ite (fun _ => Ev.val rfl) (fun h0 => ?_)
  obtain ⟨z, hz⟩ := szMor_some m.f0 m.f1 m.f2 1048576
  refine Ev.bindc hz ?_
  refine Ev.ite (fun _ => Ev.val rfl) (fun h => ?_)
  obtain ⟨_, hA, hB, hC⟩ := szMor hz (by omega) (by omega) (by omega) hm.1 hm.2.1 hm.2.2
  unfold laws_toMorphism.f
  simp only [Option.bind_some]
  obtain ⟨r, h1, h2, _⟩ := applyM m.f0 m.f1 m.f2 s hA hB hC hs
  exact Ev.bind h1 (Ev.bind h2 (Ev.ite_t rfl (Ev.val rfl)))

end Go.Proofs.Ytdepiibcopbjlaa.Pure
