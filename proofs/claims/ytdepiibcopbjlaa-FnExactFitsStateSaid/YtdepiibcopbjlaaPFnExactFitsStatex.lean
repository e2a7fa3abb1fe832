-- by wip/tools (a patched print, this session's own)
import Derived.Test.YtdepiibcopbjlaaPFnExactFitsStatex0
import Derived.Test.YtdepiibcopbjlaaPFnExactFitsStatex1
import Derived.Test.YtdepiibcopbjlaaPFnExactFitsStatex2
import Derived.Test.YtdepiibcopbjlaaPFnExactFitsStatex3
import Derived.Test.YtdepiibcopbjlaaPFnExactFitsStatex4
import Derived.Test.YtdepiibcopbjlaaPFnExactFitsStatex5
import Derived.Test.YtdepiibcopbjlaaPFnExactFitsStatex6
import Derived.Test.YtdepiibcopbjlaaPFnExactFitsStatex7
import Derived.Test.YtdepiibcopbjlaaPFnExactFitsStatex8
import Derived.Test.YtdepiibcopbjlaaPFnExactFitsStatex9
namespace Go.Proofs.Ytdepiibcopbjlaa.PFnExactFitsState
open Go.RowKit Go.Proofs.YtdepiibcopbjlaaW.PrintWords Go.Proofs.YtdepiibcopbjlaaW.PrintLast Go.Proofs.YtdepiibcopbjlaaW.PrintMore
attribute [local go_sem] max2_int min2_int max_two min_two max_three min_three max_four min_four   -- for this text's walks alone
set_option linter.unusedVariables false
set_option linter.unusedSimpArgs false

end Go.Proofs.Ytdepiibcopbjlaa.PFnExactFitsState
