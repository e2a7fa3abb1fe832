/- Proved: for every k, the program's ExampleText returns the text that the reference's ExampleText returns. Conditions: none. -/
import Derived.Test.YtdepiibcopbjlaaPFnExactExampleTextx1
namespace Go.Proofs.Ytdepiibcopbjlaa.Pure
open Go.RowKit Go.Proofs.Ytdepiibcopbjlaa.PFnExactExampleText Go.Proofs.YtdepiibcopbjlaaW.PrintWords Go.Proofs.YtdepiibcopbjlaaW.PrintLast

theorem FnExactExampleText : laws_FnExactExampleText.Pure := by
  intro a hw
  refine ⟨5, ?_⟩
  by_cases h1 : a = 1
  · subst h1; decide +kernel
  by_cases h2 : a = 2
  · subst h2; decide +kernel
  by_cases h3 : a = 3
  · subst h3; decide +kernel
  by_cases h4 : a = 4
  · subst h4; decide +kernel
  by_cases h5 : a = 5
  · subst h5; decide +kernel
  unfold laws_FnExactExampleText.f spec_ExampleText.f spec_l21Lines.f impl_ExampleText.f impl_within.f
  rw [if_neg h1, if_neg h2, if_neg h3, if_neg h4, if_neg h5]
  simp only [Option.bind_some, List.length_nil, List.length_cons]
  by_cases h6 : a ≥ 1
  · have h7 : ¬ a ≤ 5 := by omega
    simp [h6, h7]
  · simp [h6]

end Go.Proofs.Ytdepiibcopbjlaa.Pure
