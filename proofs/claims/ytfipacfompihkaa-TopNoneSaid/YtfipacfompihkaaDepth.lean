/- The walks of package walk's Depth and Up, as an iterator. -/
import Derived.Test.YtfipacfompihkaaWithin
import Derived.Test.YtfipacfompihkaaParent
namespace Go.Proofs.Ytfipacfompihkaa
open Go.RowKit Go.Shelf
attribute [local go_sem] Oper.semAt_some

/-- How many labels the first has more than the second; -1: it does not lie within it. -/
def depthN (a z : Bs) : Int := if withinB a z = true then ((namL a).length : Int) - ((namL z).length : Int) else -1

end Go.Proofs.Ytfipacfompihkaa
