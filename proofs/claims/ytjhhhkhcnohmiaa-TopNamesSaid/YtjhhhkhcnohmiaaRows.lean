/-
  No cell of these rows narrows 'for every input' (looked for: loops, veiled, ifaces, maps, wideKeys, modest, calm, conditions, laid).
  DERIVED. THE GIVEN ROWS OF THIS SEAT. 9 by the template 'for every input the law returns true; each argument reads behind the call as it read before'; 0 by the template 'total and deterministic' (their statements: YtjhhhkhcnohmiaaTotals.lean).
  GIVEN WITH THE SEED: the statements are not yours to turn. If you find one false, say at which input.
  Laid BY PROGRAM, IN A SANDBOX (cutbox-rows.mjs): the forced cells as the released guide's own fill.sh prints them over the translation 4894f42f063dad53… (all of the seat's roots in one cut). By AI agents, Wed Nov 11 2026. No macro, syntax, notation, axiom, sorry.
-/
import Derived.Test.YtjhhhkhcnohmiaaChecked
import GoSem.Claim
import GoSem.ClaimJoined
import GoSem.ClaimMapViews
import Derived.JoinedTies
import Derived.KernelRfl
namespace Go.Proofs.Ytjhhhkhcnohmiaa
/- THE CELL 'sum', in the pinned program and in every row, IS THE sha256 OF THE DUMP (.gsa) THAT YtjhhhkhcnohmiaaProg.lean LOADS. Nothing in Lean hashes anything: it is a label: what it is worth is what the hold of that sum in a sandbox is worth. -/
noncomputable def Try.pinned : Pinned := { name := "ytjhhhkhcnohmiaa", sum := "4894f42f063dad538c45ddfe1fbab4a676fa5171b501dc1522ff0e3f1c306efb", checked := Try.checked }
namespace Rows
def none {H : Type} : Left H := { results := [], args := [] }

/-- 'hardtacklaw41.MixTells': WHATEVER THE INPUT: true; the input reads as it did. -/
def mixTellsSpec : ChangeSpec := { name := "mixTells", fn := fun _ => fun
  | [d1, d2, d3] => { results := [.lit (.bool true)], args := [d1, d2, d3] }
  | _ => none }
def mixTellsRow : OpenClaim := { program := "ytjhhhkhcnohmiaa", sum := "4894f42f063dad538c45ddfe1fbab4a676fa5171b501dc1522ff0e3f1c306efb", func := "hardtack/hardtacklaw41.MixTells", spec := "mixTells", unfollowed := true, recurses := true, apart := false }
def MixTellsSaid : Prop := mixTellsRow.holds Try.pinned (OpenSpec.ofChange mixTellsSpec)

/-- ITS FALSE NEIGHBOUR: 'it returns false'. Refute it at one input. -/
def mixTellsWrong : ChangeSpec := { name := "mixTells", fn := fun _ => fun
  | [d1, d2, d3] => { results := [.lit (.bool false)], args := [d1, d2, d3] }
  | _ => none }
def MixTellsWrongFalsely : Prop := mixTellsRow.holds Try.pinned (OpenSpec.ofChange mixTellsWrong)

/-- 'hardtacktop.TopDepth': WHATEVER THE INPUT: true; the input reads as it did. -/
def topDepthSpec : ChangeSpec := { name := "topDepth", fn := fun _ => fun
  | [d1, d2, d3] => { results := [.lit (.bool true)], args := [d1, d2, d3] }
  | _ => none }
def topDepthRow : OpenClaim := { program := "ytjhhhkhcnohmiaa", sum := "4894f42f063dad538c45ddfe1fbab4a676fa5171b501dc1522ff0e3f1c306efb", func := "hardtack/hardtacktop.TopDepth", spec := "topDepth", unfollowed := true, recurses := true, apart := false }
def TopDepthSaid : Prop := topDepthRow.holds Try.pinned (OpenSpec.ofChange topDepthSpec)

/-- ITS FALSE NEIGHBOUR: 'it returns false'. Refute it at one input. -/
def topDepthWrong : ChangeSpec := { name := "topDepth", fn := fun _ => fun
  | [d1, d2, d3] => { results := [.lit (.bool false)], args := [d1, d2, d3] }
  | _ => none }
def TopDepthWrongFalsely : Prop := topDepthRow.holds Try.pinned (OpenSpec.ofChange topDepthWrong)

/-- 'hardtacklaw43.MinimMore': WHATEVER THE INPUT: true; the input reads as it did. -/
def minimMoreSpec : ChangeSpec := { name := "minimMore", fn := fun _ => fun
  | [d1, d2] => { results := [.lit (.bool true)], args := [d1, d2] }
  | _ => none }
def minimMoreRow : OpenClaim := { program := "ytjhhhkhcnohmiaa", sum := "4894f42f063dad538c45ddfe1fbab4a676fa5171b501dc1522ff0e3f1c306efb", func := "hardtack/hardtacklaw43.MinimMore", spec := "minimMore", unfollowed := true, recurses := true, apart := false }
def MinimMoreSaid : Prop := minimMoreRow.holds Try.pinned (OpenSpec.ofChange minimMoreSpec)

/-- ITS FALSE NEIGHBOUR: 'it returns false'. Refute it at one input. -/
def minimMoreWrong : ChangeSpec := { name := "minimMore", fn := fun _ => fun
  | [d1, d2] => { results := [.lit (.bool false)], args := [d1, d2] }
  | _ => none }
def MinimMoreWrongFalsely : Prop := minimMoreRow.holds Try.pinned (OpenSpec.ofChange minimMoreWrong)

/-- 'hardtacklaw01.LabelUp': WHATEVER THE INPUT: true; the input reads as it did. -/
def labelUpSpec : ChangeSpec := { name := "labelUp", fn := fun _ => fun
  | [d1, d2] => { results := [.lit (.bool true)], args := [d1, d2] }
  | _ => none }
def labelUpRow : OpenClaim := { program := "ytjhhhkhcnohmiaa", sum := "4894f42f063dad538c45ddfe1fbab4a676fa5171b501dc1522ff0e3f1c306efb", func := "hardtack/hardtacklaw01.LabelUp", spec := "labelUp", inPlace := ["internal/abi.NoEscape"], unfollowed := true, recurses := true, apart := false }
def LabelUpSaid : Prop := labelUpRow.holds Try.pinned (OpenSpec.ofChange labelUpSpec)

/-- ITS FALSE NEIGHBOUR: 'it returns false'. Refute it at one input. -/
def labelUpWrong : ChangeSpec := { name := "labelUp", fn := fun _ => fun
  | [d1, d2] => { results := [.lit (.bool false)], args := [d1, d2] }
  | _ => none }
def LabelUpWrongFalsely : Prop := labelUpRow.holds Try.pinned (OpenSpec.ofChange labelUpWrong)

/-- 'hardtacklaw02.WalkTells': WHATEVER THE INPUT: true; the input reads as it did. -/
def walkTellsSpec : ChangeSpec := { name := "walkTells", fn := fun _ => fun
  | [d1, d2] => { results := [.lit (.bool true)], args := [d1, d2] }
  | _ => none }
def walkTellsRow : OpenClaim := { program := "ytjhhhkhcnohmiaa", sum := "4894f42f063dad538c45ddfe1fbab4a676fa5171b501dc1522ff0e3f1c306efb", func := "hardtack/hardtacklaw02.WalkTells", spec := "walkTells", unfollowed := true, recurses := true, apart := false }
def WalkTellsSaid : Prop := walkTellsRow.holds Try.pinned (OpenSpec.ofChange walkTellsSpec)

/-- ITS FALSE NEIGHBOUR: 'it returns false'. Refute it at one input. -/
def walkTellsWrong : ChangeSpec := { name := "walkTells", fn := fun _ => fun
  | [d1, d2] => { results := [.lit (.bool false)], args := [d1, d2] }
  | _ => none }
def WalkTellsWrongFalsely : Prop := walkTellsRow.holds Try.pinned (OpenSpec.ofChange walkTellsWrong)

/-- 'hardtacklaw02.WalkSorts': WHATEVER THE INPUT: true; the input reads as it did. -/
def walkSortsSpec : ChangeSpec := { name := "walkSorts", fn := fun _ => fun
  | [d1, d2] => { results := [.lit (.bool true)], args := [d1, d2] }
  | _ => none }
def walkSortsRow : OpenClaim := { program := "ytjhhhkhcnohmiaa", sum := "4894f42f063dad538c45ddfe1fbab4a676fa5171b501dc1522ff0e3f1c306efb", func := "hardtack/hardtacklaw02.WalkSorts", spec := "walkSorts", unfollowed := true, recurses := true, apart := false }
def WalkSortsSaid : Prop := walkSortsRow.holds Try.pinned (OpenSpec.ofChange walkSortsSpec)

/-- ITS FALSE NEIGHBOUR: 'it returns false'. Refute it at one input. -/
def walkSortsWrong : ChangeSpec := { name := "walkSorts", fn := fun _ => fun
  | [d1, d2] => { results := [.lit (.bool false)], args := [d1, d2] }
  | _ => none }
def WalkSortsWrongFalsely : Prop := walkSortsRow.holds Try.pinned (OpenSpec.ofChange walkSortsWrong)

/-- 'hardtacklaw02.WalkOrder': WHATEVER THE INPUT: true; the input reads as it did. -/
def walkOrderSpec : ChangeSpec := { name := "walkOrder", fn := fun _ => fun
  | [d1, d2, d3] => { results := [.lit (.bool true)], args := [d1, d2, d3] }
  | _ => none }
def walkOrderRow : OpenClaim := { program := "ytjhhhkhcnohmiaa", sum := "4894f42f063dad538c45ddfe1fbab4a676fa5171b501dc1522ff0e3f1c306efb", func := "hardtack/hardtacklaw02.WalkOrder", spec := "walkOrder", unfollowed := true, recurses := true, apart := false }
def WalkOrderSaid : Prop := walkOrderRow.holds Try.pinned (OpenSpec.ofChange walkOrderSpec)

/-- ITS FALSE NEIGHBOUR: 'it returns false'. Refute it at one input. -/
def walkOrderWrong : ChangeSpec := { name := "walkOrder", fn := fun _ => fun
  | [d1, d2, d3] => { results := [.lit (.bool false)], args := [d1, d2, d3] }
  | _ => none }
def WalkOrderWrongFalsely : Prop := walkOrderRow.holds Try.pinned (OpenSpec.ofChange walkOrderWrong)

/-- 'hardtacklaw02.WalkCommon': WHATEVER THE INPUT: true; the input reads as it did. -/
def walkCommonSpec : ChangeSpec := { name := "walkCommon", fn := fun _ => fun
  | [d1, d2, d3, d4] => { results := [.lit (.bool true)], args := [d1, d2, d3, d4] }
  | _ => none }
def walkCommonRow : OpenClaim := { program := "ytjhhhkhcnohmiaa", sum := "4894f42f063dad538c45ddfe1fbab4a676fa5171b501dc1522ff0e3f1c306efb", func := "hardtack/hardtacklaw02.WalkCommon", spec := "walkCommon", unfollowed := true, recurses := true, apart := false }
def WalkCommonSaid : Prop := walkCommonRow.holds Try.pinned (OpenSpec.ofChange walkCommonSpec)

/-- ITS FALSE NEIGHBOUR: 'it returns false'. Refute it at one input. -/
def walkCommonWrong : ChangeSpec := { name := "walkCommon", fn := fun _ => fun
  | [d1, d2, d3, d4] => { results := [.lit (.bool false)], args := [d1, d2, d3, d4] }
  | _ => none }
def WalkCommonWrongFalsely : Prop := walkCommonRow.holds Try.pinned (OpenSpec.ofChange walkCommonWrong)

/-- 'hardtacktop.TopNames': WHATEVER THE INPUT: true; the input reads as it did. -/
def topNamesSpec : ChangeSpec := { name := "topNames", fn := fun _ => fun
  | [d] => { results := [.lit (.bool true)], args := [d] }
  | _ => none }
def topNamesRow : OpenClaim := { program := "ytjhhhkhcnohmiaa", sum := "4894f42f063dad538c45ddfe1fbab4a676fa5171b501dc1522ff0e3f1c306efb", func := "hardtack/hardtacktop.TopNames", spec := "topNames", inPlace := ["internal/abi.NoEscape"], unfollowed := true, recurses := true, apart := false }
def TopNamesSaid : Prop := topNamesRow.holds Try.pinned (OpenSpec.ofChange topNamesSpec)

/-- ITS FALSE NEIGHBOUR: 'it returns false'. Refute it at one input. -/
def topNamesWrong : ChangeSpec := { name := "topNames", fn := fun _ => fun
  | [d] => { results := [.lit (.bool false)], args := [d] }
  | _ => none }
def TopNamesWrongFalsely : Prop := topNamesRow.holds Try.pinned (OpenSpec.ofChange topNamesWrong)

/- THE SECOND FORM. 'bulk': how many values and letters a reading holds, each counted each time it is reached (what is shared counts as often as it is met; a slice's spare places count too). A statement '..UptoSaid' is the law's where the arguments, and the package variables that the reading takes, are together of bulk at most 1048576: NARROWER than '..Said'. Prove '..Said' where nothing that the law and all that it calls make is longer than what came in: it says more and counts as full. Else prove '..UptoSaid'. A law counts once. -/
mutual
def uptoBulk {H : Type} : DataW H → Nat
  | .lit (.string bytes) => bytes.length + 1
  | .lit _ => 1
  | .nil => 1
  | .ptr d => uptoBulk d + 1
  | .slice elems spare => uptoBulkAll elems + uptoBulkAll spare + 1
  | .agg parts => uptoBulkAll parts + 1
  | .iface _ d => uptoBulk d + 1
  | .map entries => uptoBulkEntries entries + 1
  | .held _ => 1
def uptoBulkAll {H : Type} : List (DataW H) → Nat
  | [] => 0
  | d :: r => uptoBulk d + uptoBulkAll r
def uptoBulkEntries {H : Type} : List (Lit × DataW H) → Nat
  | [] => 0
  | x :: r => uptoBulkEntry x + uptoBulkEntries r
def uptoBulkEntry {H : Type} : Lit × DataW H → Nat
  | (.string bytes, d) => bytes.length + uptoBulk d + 1
  | (_, d) => uptoBulk d + 1
 end
def uptoSmall : (H : Type) → List (DataW H) → Bool := fun _ ds => decide (uptoBulkAll ds ≤ 1048576)
def OpenSpec.upto (s : _root_.Go.ChangeSpec) : _root_.Go.OpenSpec := { _root_.Go.OpenSpec.ofChange s with cond := some uptoSmall }

/-- 'hardtacklaw41.MixTells', WHERE WHAT IT READS IS OF BULK AT MOST 1048576: true; the input reads as it did. -/
def mixTellsUptoRow : OpenClaim := { program := "ytjhhhkhcnohmiaa", sum := "4894f42f063dad538c45ddfe1fbab4a676fa5171b501dc1522ff0e3f1c306efb", func := "hardtack/hardtacklaw41.MixTells", spec := "mixTells", unfollowed := true, recurses := true, apart := false, narrowed := true }
def MixTellsUptoSaid : Prop := mixTellsUptoRow.holds Try.pinned (OpenSpec.upto mixTellsSpec)

/-- 'hardtacktop.TopDepth', WHERE WHAT IT READS IS OF BULK AT MOST 1048576: true; the input reads as it did. -/
def topDepthUptoRow : OpenClaim := { program := "ytjhhhkhcnohmiaa", sum := "4894f42f063dad538c45ddfe1fbab4a676fa5171b501dc1522ff0e3f1c306efb", func := "hardtack/hardtacktop.TopDepth", spec := "topDepth", unfollowed := true, recurses := true, apart := false, narrowed := true }
def TopDepthUptoSaid : Prop := topDepthUptoRow.holds Try.pinned (OpenSpec.upto topDepthSpec)

/-- 'hardtacklaw43.MinimMore', WHERE WHAT IT READS IS OF BULK AT MOST 1048576: true; the input reads as it did. -/
def minimMoreUptoRow : OpenClaim := { program := "ytjhhhkhcnohmiaa", sum := "4894f42f063dad538c45ddfe1fbab4a676fa5171b501dc1522ff0e3f1c306efb", func := "hardtack/hardtacklaw43.MinimMore", spec := "minimMore", unfollowed := true, recurses := true, apart := false, narrowed := true }
def MinimMoreUptoSaid : Prop := minimMoreUptoRow.holds Try.pinned (OpenSpec.upto minimMoreSpec)

/-- 'hardtacklaw01.LabelUp', WHERE WHAT IT READS IS OF BULK AT MOST 1048576: true; the input reads as it did. -/
def labelUpUptoRow : OpenClaim := { program := "ytjhhhkhcnohmiaa", sum := "4894f42f063dad538c45ddfe1fbab4a676fa5171b501dc1522ff0e3f1c306efb", func := "hardtack/hardtacklaw01.LabelUp", spec := "labelUp", inPlace := ["internal/abi.NoEscape"], unfollowed := true, recurses := true, apart := false, narrowed := true }
def LabelUpUptoSaid : Prop := labelUpUptoRow.holds Try.pinned (OpenSpec.upto labelUpSpec)

/-- 'hardtacklaw02.WalkTells', WHERE WHAT IT READS IS OF BULK AT MOST 1048576: true; the input reads as it did. -/
def walkTellsUptoRow : OpenClaim := { program := "ytjhhhkhcnohmiaa", sum := "4894f42f063dad538c45ddfe1fbab4a676fa5171b501dc1522ff0e3f1c306efb", func := "hardtack/hardtacklaw02.WalkTells", spec := "walkTells", unfollowed := true, recurses := true, apart := false, narrowed := true }
def WalkTellsUptoSaid : Prop := walkTellsUptoRow.holds Try.pinned (OpenSpec.upto walkTellsSpec)

/-- 'hardtacklaw02.WalkSorts', WHERE WHAT IT READS IS OF BULK AT MOST 1048576: true; the input reads as it did. -/
def walkSortsUptoRow : OpenClaim := { program := "ytjhhhkhcnohmiaa", sum := "4894f42f063dad538c45ddfe1fbab4a676fa5171b501dc1522ff0e3f1c306efb", func := "hardtack/hardtacklaw02.WalkSorts", spec := "walkSorts", unfollowed := true, recurses := true, apart := false, narrowed := true }
def WalkSortsUptoSaid : Prop := walkSortsUptoRow.holds Try.pinned (OpenSpec.upto walkSortsSpec)

/-- 'hardtacklaw02.WalkOrder', WHERE WHAT IT READS IS OF BULK AT MOST 1048576: true; the input reads as it did. -/
def walkOrderUptoRow : OpenClaim := { program := "ytjhhhkhcnohmiaa", sum := "4894f42f063dad538c45ddfe1fbab4a676fa5171b501dc1522ff0e3f1c306efb", func := "hardtack/hardtacklaw02.WalkOrder", spec := "walkOrder", unfollowed := true, recurses := true, apart := false, narrowed := true }
def WalkOrderUptoSaid : Prop := walkOrderUptoRow.holds Try.pinned (OpenSpec.upto walkOrderSpec)

/-- 'hardtacklaw02.WalkCommon', WHERE WHAT IT READS IS OF BULK AT MOST 1048576: true; the input reads as it did. -/
def walkCommonUptoRow : OpenClaim := { program := "ytjhhhkhcnohmiaa", sum := "4894f42f063dad538c45ddfe1fbab4a676fa5171b501dc1522ff0e3f1c306efb", func := "hardtack/hardtacklaw02.WalkCommon", spec := "walkCommon", unfollowed := true, recurses := true, apart := false, narrowed := true }
def WalkCommonUptoSaid : Prop := walkCommonUptoRow.holds Try.pinned (OpenSpec.upto walkCommonSpec)

/-- 'hardtacktop.TopNames', WHERE WHAT IT READS IS OF BULK AT MOST 1048576: true; the input reads as it did. -/
def topNamesUptoRow : OpenClaim := { program := "ytjhhhkhcnohmiaa", sum := "4894f42f063dad538c45ddfe1fbab4a676fa5171b501dc1522ff0e3f1c306efb", func := "hardtack/hardtacktop.TopNames", spec := "topNames", inPlace := ["internal/abi.NoEscape"], unfollowed := true, recurses := true, apart := false, narrowed := true }
def TopNamesUptoSaid : Prop := topNamesUptoRow.holds Try.pinned (OpenSpec.upto topNamesSpec)

end Rows
end Go.Proofs.Ytjhhhkhcnohmiaa
