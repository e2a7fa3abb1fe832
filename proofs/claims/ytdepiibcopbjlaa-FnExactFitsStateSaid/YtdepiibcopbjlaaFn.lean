/- Storing a function value: the step of the machine, as the kit has it for the other kinds of values. -/
import Derived.Test.YtdepiibcopbjlaaProg
import Derived.WideLaws
namespace Go.Proofs.Ytdepiibcopbjlaa.Fns
open Go
variable {P : Program} {w : World}
@[go_sem] theorem run_store_func (a : Addr) (m : Mode) (f : Fn) (ts cs : Array Value) : (store a (.func f ts cs) m).run P w = stored P w a (.func f ts cs) m := run_store P w a _ m rfl
@[go_sem] theorem run_store_nilFunc (a : Addr) (m : Mode) : (store a .nilFunc m).run P w = stored P w a .nilFunc m := run_store P w a _ m rfl
end Go.Proofs.Ytdepiibcopbjlaa.Fns
