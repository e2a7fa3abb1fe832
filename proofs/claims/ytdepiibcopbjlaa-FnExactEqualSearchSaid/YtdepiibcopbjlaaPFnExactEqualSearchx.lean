-- by wip/tools (a patched print, this session's own)
import Derived.Test.YtdepiibcopbjlaaPFnExactEqualSearchx0
import Derived.Test.YtdepiibcopbjlaaPFnExactEqualSearchx1
import Derived.Test.YtdepiibcopbjlaaPFnExactEqualSearchx2
import Derived.Test.YtdepiibcopbjlaaPFnExactEqualSearchx3
import Derived.Test.YtdepiibcopbjlaaPFnExactEqualSearchx4
import Derived.Test.YtdepiibcopbjlaaPFnExactEqualSearchx5
import Derived.Test.YtdepiibcopbjlaaPFnExactEqualSearchx6
namespace Go.Proofs.Ytdepiibcopbjlaa.PFnExactEqualSearch
open Go.RowKit Go.Proofs.YtdepiibcopbjlaaW.PrintWords Go.Proofs.YtdepiibcopbjlaaW.PrintLast Go.Proofs.YtdepiibcopbjlaaW.PrintMore
attribute [local go_sem] max2_int min2_int max_two min_two max_three min_three max_four min_four   -- for this text's walks alone
set_option linter.unusedVariables false
set_option linter.unusedSimpArgs false

end Go.Proofs.Ytdepiibcopbjlaa.PFnExactEqualSearch
