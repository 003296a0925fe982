/- The walk of package label's Same. -/
import Derived.Test.YtcphcgkbjlgkiaaFold
import Derived.Deep.RegionHeld3
namespace Go.Proofs.Ytcphcgkbjlgkiaa
open Go.RowKit

/-- Are both names, and one? -/
def sameB (a b : Bs) : Bool := decide (a.length = b.length) && (isName a && (isName b && foldB a == foldB b))
theorem toList_mk (l : Bs) : (⟨l.toArray⟩ : ByteArray).toList = l := by rw [ByteArray.toList_eq]
theorem chk_cases (l : Bs) : (isName l = true ∧ chkN l = 0) ∨ (isName l = false ∧ chkN l = 2) := by
  unfold chkN
  cases h : isName l
  · right; exact ⟨rfl, by simp⟩
  · left; exact ⟨rfl, by simp⟩

end Go.Proofs.Ytcphcgkbjlgkiaa
