-- by wip/tools (a patched print, this session's own)
import Derived.Test.YtdepiibcopbjlaaPFnExactComposeMorphismsx0
import Derived.Test.YtdepiibcopbjlaaPFnExactComposeMorphismsx1
import Derived.Test.YtdepiibcopbjlaaPFnExactComposeMorphismsx2
import Derived.Test.YtdepiibcopbjlaaPFnExactComposeMorphismsx3
import Derived.Test.YtdepiibcopbjlaaPFnExactComposeMorphismsx4
import Derived.Test.YtdepiibcopbjlaaPFnExactComposeMorphismsx5
import Derived.Test.YtdepiibcopbjlaaPFnExactComposeMorphismsx6
namespace Go.Proofs.Ytdepiibcopbjlaa.PFnExactComposeMorphisms
open Go.RowKit Go.Proofs.YtdepiibcopbjlaaW.PrintWords Go.Proofs.YtdepiibcopbjlaaW.PrintLast Go.Proofs.YtdepiibcopbjlaaW.PrintMore
attribute [local go_sem] max2_int min2_int max_two min_two max_three min_three max_four min_four   -- for this text's walks alone
set_option linter.unusedVariables false
set_option linter.unusedSimpArgs false

end Go.Proofs.Ytdepiibcopbjlaa.PFnExactComposeMorphisms
