/- The walk of the reference's Put. -/
import Derived.Test.YtcphcgkbjlgkiaaKeyedPut
namespace Go.Proofs.Ytcphcgkbjlgkiaa
open Go.RowKit Go.Lib

end Go.Proofs.Ytcphcgkbjlgkiaa
