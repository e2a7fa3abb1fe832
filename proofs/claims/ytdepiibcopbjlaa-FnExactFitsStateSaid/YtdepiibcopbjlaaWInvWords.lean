-- by wip/tools (a patched print, this session's own)
import Derived.Test.YtdepiibcopbjlaaWInv
import Derived.Test.YtdepiibcopbjlaaWFootNe
namespace Go.Proofs.YtdepiibcopbjlaaW.PrintWords
open Go.RowKit
end Go.Proofs.YtdepiibcopbjlaaW.PrintWords
namespace Go.Proofs.YtdepiibcopbjlaaW.PrintLast
section
variable {ops : Array Oper} {a : Act} {o og : Oper} {g : Nat} {t : Tmp} {u : Bool}
end
end Go.Proofs.YtdepiibcopbjlaaW.PrintLast
