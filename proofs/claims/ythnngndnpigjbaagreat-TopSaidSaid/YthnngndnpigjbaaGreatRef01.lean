/- The walks of the reference's Split, Check and Fold (hardtackref01). -/
import Derived.Test.YthnngndnpigjbaaGreatRes
import Derived.Test.YthnngndnpigjbaaGreatCount
import Derived.Test.YthnngndnpigjbaaGreatSl
namespace Go.Proofs.YthnngndnpigjbaaGreat
open Go.RowKit

/-- Texts in memory. -/
def strs (ls : List Bs) : List Value := ls.map fun x => .string ⟨x.toArray⟩
theorem strs_snoc (ls : List Bs) (x : Bs) : strs (ls ++ [x]) = strs ls ++ [.string ⟨x.toArray⟩] := by simp [strs]
theorem info_str : (Tryz.prog.info? 9).map (fun i => (i.zero, i.size, i.bytes)) = some (some (.string ⟨#[]⟩), 1, 16) := by kernel_rfl
/-- What Split gives back. -/
def SplitPost (l : Bs) (w : World) (e : Ending) (w' : World) : Prop :=
  ∃ v, e = .returned (.tuple #[v, .bool (isName l)]) ∧ (∃ A n c, v = .slice A n c) ∧ (isName l = true → Sl w' 1 v (labs l).1.length (strs (labs l).1)) ∧ Below w.heap.size w w'

end Go.Proofs.YthnngndnpigjbaaGreat
