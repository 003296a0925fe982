/- The walks of hardtackref01's Check and Fold. The walk of the reference's Same (hardtackref01). Conditions: none. -/
import Derived.Test.YtgfpnkakglgokaaRef01
import Derived.Test.YtgfpnkakglgokaaLetters
import Derived.Test.YtgfpnkakglgokaaSame
namespace Go.Proofs.Ytgfpnkakglgokaa
open Go.RowKit

end Go.Proofs.Ytgfpnkakglgokaa

namespace Go.Proofs.Ytgfpnkakglgokaa
open Go.RowKit Go.Lib

end Go.Proofs.Ytgfpnkakglgokaa
