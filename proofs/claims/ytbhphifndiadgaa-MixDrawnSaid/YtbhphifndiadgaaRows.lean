/-
  No cell of these rows narrows 'for every input' (looked for: loops, veiled, ifaces, maps, wideKeys, modest, calm, conditions, laid).
  DERIVED. THE GIVEN ROWS OF THIS SEAT. 16 by the template 'for every input the law returns true; each argument reads behind the call as it read before'; 0 by the template 'total and deterministic' (their statements: YtbhphifndiadgaaTotals.lean).
  GIVEN WITH THE SEED: the statements are not yours to turn. If you find one false, say at which input.
  Laid BY PROGRAM, IN A SANDBOX (cutbox-rows.mjs): the forced cells as the released guide's own fill.sh prints them over the translation 6349f14bc3e560c4… (all of the seat's roots in one cut). By AI agents, Wed Nov 11 2026. No macro, syntax, notation, axiom, sorry.
-/
import Derived.Test.YtbhphifndiadgaaChecked
import GoSem.Claim
import GoSem.ClaimJoined
import GoSem.ClaimMapViews
import Derived.JoinedTies
import Derived.KernelRfl
namespace Go.Proofs.Ytbhphifndiadgaa
/- THE CELL 'sum', in the pinned program and in every row, IS THE sha256 OF THE DUMP (.gsa) THAT YtbhphifndiadgaaProg.lean LOADS. Nothing in Lean hashes anything: it is a label: what it is worth is what the hold of that sum in a sandbox is worth. -/
noncomputable def Try.pinned : Pinned := { name := "ytbhphifndiadgaa", sum := "6349f14bc3e560c4d592fffcb8e5158b6f2e19bd91bf574195a25f4b0ee731a5", checked := Try.checked }
namespace Rows
def none {H : Type} : Left H := { results := [], args := [] }

/-- 'hardtacklaw41.MixTells': WHATEVER THE INPUT: true; the input reads as it did. -/
def mixTellsSpec : ChangeSpec := { name := "mixTells", fn := fun _ => fun
  | [d1, d2, d3] => { results := [.lit (.bool true)], args := [d1, d2, d3] }
  | _ => none }
def mixTellsRow : OpenClaim := { program := "ytbhphifndiadgaa", sum := "6349f14bc3e560c4d592fffcb8e5158b6f2e19bd91bf574195a25f4b0ee731a5", func := "hardtack/hardtacklaw41.MixTells", spec := "mixTells", unfollowed := true, recurses := true, apart := false }
def MixTellsSaid : Prop := mixTellsRow.holds Try.pinned (OpenSpec.ofChange mixTellsSpec)

/-- ITS FALSE NEIGHBOUR: 'it returns false'. Refute it at one input. -/
def mixTellsWrong : ChangeSpec := { name := "mixTells", fn := fun _ => fun
  | [d1, d2, d3] => { results := [.lit (.bool false)], args := [d1, d2, d3] }
  | _ => none }
def MixTellsWrongFalsely : Prop := mixTellsRow.holds Try.pinned (OpenSpec.ofChange mixTellsWrong)

/-- 'hardtacklaw41.MixBack': WHATEVER THE INPUT: true; the input reads as it did. -/
def mixBackSpec : ChangeSpec := { name := "mixBack", fn := fun _ => fun
  | [d1, d2] => { results := [.lit (.bool true)], args := [d1, d2] }
  | _ => none }
def mixBackRow : OpenClaim := { program := "ytbhphifndiadgaa", sum := "6349f14bc3e560c4d592fffcb8e5158b6f2e19bd91bf574195a25f4b0ee731a5", func := "hardtack/hardtacklaw41.MixBack", spec := "mixBack", unfollowed := true, recurses := true, apart := false }
def MixBackSaid : Prop := mixBackRow.holds Try.pinned (OpenSpec.ofChange mixBackSpec)

/-- ITS FALSE NEIGHBOUR: 'it returns false'. Refute it at one input. -/
def mixBackWrong : ChangeSpec := { name := "mixBack", fn := fun _ => fun
  | [d1, d2] => { results := [.lit (.bool false)], args := [d1, d2] }
  | _ => none }
def MixBackWrongFalsely : Prop := mixBackRow.holds Try.pinned (OpenSpec.ofChange mixBackWrong)

/-- 'hardtacklaw41.MixDrawn': WHATEVER THE INPUT: true; the input reads as it did. -/
def mixDrawnSpec : ChangeSpec := { name := "mixDrawn", fn := fun _ => fun
  | [d1, d2, d3] => { results := [.lit (.bool true)], args := [d1, d2, d3] }
  | _ => none }
def mixDrawnRow : OpenClaim := { program := "ytbhphifndiadgaa", sum := "6349f14bc3e560c4d592fffcb8e5158b6f2e19bd91bf574195a25f4b0ee731a5", func := "hardtack/hardtacklaw41.MixDrawn", spec := "mixDrawn", unfollowed := true, recurses := true, apart := false }
def MixDrawnSaid : Prop := mixDrawnRow.holds Try.pinned (OpenSpec.ofChange mixDrawnSpec)

/-- ITS FALSE NEIGHBOUR: 'it returns false'. Refute it at one input. -/
def mixDrawnWrong : ChangeSpec := { name := "mixDrawn", fn := fun _ => fun
  | [d1, d2, d3] => { results := [.lit (.bool false)], args := [d1, d2, d3] }
  | _ => none }
def MixDrawnWrongFalsely : Prop := mixDrawnRow.holds Try.pinned (OpenSpec.ofChange mixDrawnWrong)

/-- 'hardtacklaw43.MinimMore': WHATEVER THE INPUT: true; the input reads as it did. -/
def minimMoreSpec : ChangeSpec := { name := "minimMore", fn := fun _ => fun
  | [d1, d2] => { results := [.lit (.bool true)], args := [d1, d2] }
  | _ => none }
def minimMoreRow : OpenClaim := { program := "ytbhphifndiadgaa", sum := "6349f14bc3e560c4d592fffcb8e5158b6f2e19bd91bf574195a25f4b0ee731a5", func := "hardtack/hardtacklaw43.MinimMore", spec := "minimMore", unfollowed := true, recurses := true, apart := false }
def MinimMoreSaid : Prop := minimMoreRow.holds Try.pinned (OpenSpec.ofChange minimMoreSpec)

/-- ITS FALSE NEIGHBOUR: 'it returns false'. Refute it at one input. -/
def minimMoreWrong : ChangeSpec := { name := "minimMore", fn := fun _ => fun
  | [d1, d2] => { results := [.lit (.bool false)], args := [d1, d2] }
  | _ => none }
def MinimMoreWrongFalsely : Prop := minimMoreRow.holds Try.pinned (OpenSpec.ofChange minimMoreWrong)

/-- 'hardtacktop.TopDepth': WHATEVER THE INPUT: true; the input reads as it did. -/
def topDepthSpec : ChangeSpec := { name := "topDepth", fn := fun _ => fun
  | [d1, d2, d3] => { results := [.lit (.bool true)], args := [d1, d2, d3] }
  | _ => none }
def topDepthRow : OpenClaim := { program := "ytbhphifndiadgaa", sum := "6349f14bc3e560c4d592fffcb8e5158b6f2e19bd91bf574195a25f4b0ee731a5", func := "hardtack/hardtacktop.TopDepth", spec := "topDepth", unfollowed := true, recurses := true, apart := false }
def TopDepthSaid : Prop := topDepthRow.holds Try.pinned (OpenSpec.ofChange topDepthSpec)

/-- ITS FALSE NEIGHBOUR: 'it returns false'. Refute it at one input. -/
def topDepthWrong : ChangeSpec := { name := "topDepth", fn := fun _ => fun
  | [d1, d2, d3] => { results := [.lit (.bool false)], args := [d1, d2, d3] }
  | _ => none }
def TopDepthWrongFalsely : Prop := topDepthRow.holds Try.pinned (OpenSpec.ofChange topDepthWrong)

/-- 'hardtacklaw01.LabelUp': WHATEVER THE INPUT: true; the input reads as it did. -/
def labelUpSpec : ChangeSpec := { name := "labelUp", fn := fun _ => fun
  | [d1, d2] => { results := [.lit (.bool true)], args := [d1, d2] }
  | _ => none }
def labelUpRow : OpenClaim := { program := "ytbhphifndiadgaa", sum := "6349f14bc3e560c4d592fffcb8e5158b6f2e19bd91bf574195a25f4b0ee731a5", func := "hardtack/hardtacklaw01.LabelUp", spec := "labelUp", inPlace := ["internal/abi.NoEscape"], unfollowed := true, recurses := true, apart := false }
def LabelUpSaid : Prop := labelUpRow.holds Try.pinned (OpenSpec.ofChange labelUpSpec)

/-- ITS FALSE NEIGHBOUR: 'it returns false'. Refute it at one input. -/
def labelUpWrong : ChangeSpec := { name := "labelUp", fn := fun _ => fun
  | [d1, d2] => { results := [.lit (.bool false)], args := [d1, d2] }
  | _ => none }
def LabelUpWrongFalsely : Prop := labelUpRow.holds Try.pinned (OpenSpec.ofChange labelUpWrong)

/-- 'hardtacklaw03.PackBack': WHATEVER THE INPUT: true; the input reads as it did. -/
def packBackSpec : ChangeSpec := { name := "packBack", fn := fun _ => fun
  | [d1, d2, d3] => { results := [.lit (.bool true)], args := [d1, d2, d3] }
  | _ => none }
def packBackRow : OpenClaim := { program := "ytbhphifndiadgaa", sum := "6349f14bc3e560c4d592fffcb8e5158b6f2e19bd91bf574195a25f4b0ee731a5", func := "hardtack/hardtacklaw03.PackBack", spec := "packBack", unfollowed := true, recurses := true, apart := false }
def PackBackSaid : Prop := packBackRow.holds Try.pinned (OpenSpec.ofChange packBackSpec)

/-- ITS FALSE NEIGHBOUR: 'it returns false'. Refute it at one input. -/
def packBackWrong : ChangeSpec := { name := "packBack", fn := fun _ => fun
  | [d1, d2, d3] => { results := [.lit (.bool false)], args := [d1, d2, d3] }
  | _ => none }
def PackBackWrongFalsely : Prop := packBackRow.holds Try.pinned (OpenSpec.ofChange packBackWrong)

/-- 'hardtacklaw03.PackEnds': WHATEVER THE INPUT: true; the input reads as it did. -/
def packEndsSpec : ChangeSpec := { name := "packEnds", fn := fun _ => fun
  | [d1, d2] => { results := [.lit (.bool true)], args := [d1, d2] }
  | _ => none }
def packEndsRow : OpenClaim := { program := "ytbhphifndiadgaa", sum := "6349f14bc3e560c4d592fffcb8e5158b6f2e19bd91bf574195a25f4b0ee731a5", func := "hardtack/hardtacklaw03.PackEnds", spec := "packEnds", unfollowed := true, recurses := true, apart := false }
def PackEndsSaid : Prop := packEndsRow.holds Try.pinned (OpenSpec.ofChange packEndsSpec)

/-- ITS FALSE NEIGHBOUR: 'it returns false'. Refute it at one input. -/
def packEndsWrong : ChangeSpec := { name := "packEnds", fn := fun _ => fun
  | [d1, d2] => { results := [.lit (.bool false)], args := [d1, d2] }
  | _ => none }
def PackEndsWrongFalsely : Prop := packEndsRow.holds Try.pinned (OpenSpec.ofChange packEndsWrong)

/-- 'hardtacklaw02.WalkTells': WHATEVER THE INPUT: true; the input reads as it did. -/
def walkTellsSpec : ChangeSpec := { name := "walkTells", fn := fun _ => fun
  | [d1, d2] => { results := [.lit (.bool true)], args := [d1, d2] }
  | _ => none }
def walkTellsRow : OpenClaim := { program := "ytbhphifndiadgaa", sum := "6349f14bc3e560c4d592fffcb8e5158b6f2e19bd91bf574195a25f4b0ee731a5", func := "hardtack/hardtacklaw02.WalkTells", spec := "walkTells", unfollowed := true, recurses := true, apart := false }
def WalkTellsSaid : Prop := walkTellsRow.holds Try.pinned (OpenSpec.ofChange walkTellsSpec)

/-- ITS FALSE NEIGHBOUR: 'it returns false'. Refute it at one input. -/
def walkTellsWrong : ChangeSpec := { name := "walkTells", fn := fun _ => fun
  | [d1, d2] => { results := [.lit (.bool false)], args := [d1, d2] }
  | _ => none }
def WalkTellsWrongFalsely : Prop := walkTellsRow.holds Try.pinned (OpenSpec.ofChange walkTellsWrong)

/-- 'hardtacklaw02.WalkSorts': WHATEVER THE INPUT: true; the input reads as it did. -/
def walkSortsSpec : ChangeSpec := { name := "walkSorts", fn := fun _ => fun
  | [d1, d2] => { results := [.lit (.bool true)], args := [d1, d2] }
  | _ => none }
def walkSortsRow : OpenClaim := { program := "ytbhphifndiadgaa", sum := "6349f14bc3e560c4d592fffcb8e5158b6f2e19bd91bf574195a25f4b0ee731a5", func := "hardtack/hardtacklaw02.WalkSorts", spec := "walkSorts", unfollowed := true, recurses := true, apart := false }
def WalkSortsSaid : Prop := walkSortsRow.holds Try.pinned (OpenSpec.ofChange walkSortsSpec)

/-- ITS FALSE NEIGHBOUR: 'it returns false'. Refute it at one input. -/
def walkSortsWrong : ChangeSpec := { name := "walkSorts", fn := fun _ => fun
  | [d1, d2] => { results := [.lit (.bool false)], args := [d1, d2] }
  | _ => none }
def WalkSortsWrongFalsely : Prop := walkSortsRow.holds Try.pinned (OpenSpec.ofChange walkSortsWrong)

/-- 'hardtacklaw02.WalkOrder': WHATEVER THE INPUT: true; the input reads as it did. -/
def walkOrderSpec : ChangeSpec := { name := "walkOrder", fn := fun _ => fun
  | [d1, d2, d3] => { results := [.lit (.bool true)], args := [d1, d2, d3] }
  | _ => none }
def walkOrderRow : OpenClaim := { program := "ytbhphifndiadgaa", sum := "6349f14bc3e560c4d592fffcb8e5158b6f2e19bd91bf574195a25f4b0ee731a5", func := "hardtack/hardtacklaw02.WalkOrder", spec := "walkOrder", unfollowed := true, recurses := true, apart := false }
def WalkOrderSaid : Prop := walkOrderRow.holds Try.pinned (OpenSpec.ofChange walkOrderSpec)

/-- ITS FALSE NEIGHBOUR: 'it returns false'. Refute it at one input. -/
def walkOrderWrong : ChangeSpec := { name := "walkOrder", fn := fun _ => fun
  | [d1, d2, d3] => { results := [.lit (.bool false)], args := [d1, d2, d3] }
  | _ => none }
def WalkOrderWrongFalsely : Prop := walkOrderRow.holds Try.pinned (OpenSpec.ofChange walkOrderWrong)

/-- 'hardtacklaw02.WalkCommon': WHATEVER THE INPUT: true; the input reads as it did. -/
def walkCommonSpec : ChangeSpec := { name := "walkCommon", fn := fun _ => fun
  | [d1, d2, d3, d4] => { results := [.lit (.bool true)], args := [d1, d2, d3, d4] }
  | _ => none }
def walkCommonRow : OpenClaim := { program := "ytbhphifndiadgaa", sum := "6349f14bc3e560c4d592fffcb8e5158b6f2e19bd91bf574195a25f4b0ee731a5", func := "hardtack/hardtacklaw02.WalkCommon", spec := "walkCommon", unfollowed := true, recurses := true, apart := false }
def WalkCommonSaid : Prop := walkCommonRow.holds Try.pinned (OpenSpec.ofChange walkCommonSpec)

/-- ITS FALSE NEIGHBOUR: 'it returns false'. Refute it at one input. -/
def walkCommonWrong : ChangeSpec := { name := "walkCommon", fn := fun _ => fun
  | [d1, d2, d3, d4] => { results := [.lit (.bool false)], args := [d1, d2, d3, d4] }
  | _ => none }
def WalkCommonWrongFalsely : Prop := walkCommonRow.holds Try.pinned (OpenSpec.ofChange walkCommonWrong)

/-- 'hardtacklaw04.RdataTells': WHATEVER THE INPUT: true; the input reads as it did. -/
def rdataTellsSpec : ChangeSpec := { name := "rdataTells", fn := fun _ => fun
  | [d1, d2] => { results := [.lit (.bool true)], args := [d1, d2] }
  | _ => none }
def rdataTellsRow : OpenClaim := { program := "ytbhphifndiadgaa", sum := "6349f14bc3e560c4d592fffcb8e5158b6f2e19bd91bf574195a25f4b0ee731a5", func := "hardtack/hardtacklaw04.RdataTells", spec := "rdataTells", inPlace := ["internal/abi.NoEscape", "internal/bytealg.MakeNoZero"], unfollowed := true, recurses := true, apart := false }
def RdataTellsSaid : Prop := rdataTellsRow.holds Try.pinned (OpenSpec.ofChange rdataTellsSpec)

/-- ITS FALSE NEIGHBOUR: 'it returns false'. Refute it at one input. -/
def rdataTellsWrong : ChangeSpec := { name := "rdataTells", fn := fun _ => fun
  | [d1, d2] => { results := [.lit (.bool false)], args := [d1, d2] }
  | _ => none }
def RdataTellsWrongFalsely : Prop := rdataTellsRow.holds Try.pinned (OpenSpec.ofChange rdataTellsWrong)

/-- 'hardtacklaw04.RdataBack': WHATEVER THE INPUT: true; the input reads as it did. -/
def rdataBackSpec : ChangeSpec := { name := "rdataBack", fn := fun _ => fun
  | [d1, d2, d3, d4] => { results := [.lit (.bool true)], args := [d1, d2, d3, d4] }
  | _ => none }
def rdataBackRow : OpenClaim := { program := "ytbhphifndiadgaa", sum := "6349f14bc3e560c4d592fffcb8e5158b6f2e19bd91bf574195a25f4b0ee731a5", func := "hardtack/hardtacklaw04.RdataBack", spec := "rdataBack", inPlace := ["internal/abi.NoEscape", "internal/bytealg.MakeNoZero"], unfollowed := true, recurses := true, apart := false }
def RdataBackSaid : Prop := rdataBackRow.holds Try.pinned (OpenSpec.ofChange rdataBackSpec)

/-- ITS FALSE NEIGHBOUR: 'it returns false'. Refute it at one input. -/
def rdataBackWrong : ChangeSpec := { name := "rdataBack", fn := fun _ => fun
  | [d1, d2, d3, d4] => { results := [.lit (.bool false)], args := [d1, d2, d3, d4] }
  | _ => none }
def RdataBackWrongFalsely : Prop := rdataBackRow.holds Try.pinned (OpenSpec.ofChange rdataBackWrong)

/-- 'hardtacktop.TopNames': WHATEVER THE INPUT: true; the input reads as it did. -/
def topNamesSpec : ChangeSpec := { name := "topNames", fn := fun _ => fun
  | [d] => { results := [.lit (.bool true)], args := [d] }
  | _ => none }
def topNamesRow : OpenClaim := { program := "ytbhphifndiadgaa", sum := "6349f14bc3e560c4d592fffcb8e5158b6f2e19bd91bf574195a25f4b0ee731a5", func := "hardtack/hardtacktop.TopNames", spec := "topNames", inPlace := ["internal/abi.NoEscape"], unfollowed := true, recurses := true, apart := false }
def TopNamesSaid : Prop := topNamesRow.holds Try.pinned (OpenSpec.ofChange topNamesSpec)

/-- ITS FALSE NEIGHBOUR: 'it returns false'. Refute it at one input. -/
def topNamesWrong : ChangeSpec := { name := "topNames", fn := fun _ => fun
  | [d] => { results := [.lit (.bool false)], args := [d] }
  | _ => none }
def TopNamesWrongFalsely : Prop := topNamesRow.holds Try.pinned (OpenSpec.ofChange topNamesWrong)

/-- 'hardtacktop.TopData': WHATEVER THE INPUT: true; the input reads as it did. -/
def topDataSpec : ChangeSpec := { name := "topData", fn := fun _ => fun
  | [d1, d2] => { results := [.lit (.bool true)], args := [d1, d2] }
  | _ => none }
def topDataRow : OpenClaim := { program := "ytbhphifndiadgaa", sum := "6349f14bc3e560c4d592fffcb8e5158b6f2e19bd91bf574195a25f4b0ee731a5", func := "hardtack/hardtacktop.TopData", spec := "topData", inPlace := ["internal/abi.NoEscape"], unfollowed := true, recurses := true, apart := false }
def TopDataSaid : Prop := topDataRow.holds Try.pinned (OpenSpec.ofChange topDataSpec)

/-- ITS FALSE NEIGHBOUR: 'it returns false'. Refute it at one input. -/
def topDataWrong : ChangeSpec := { name := "topData", fn := fun _ => fun
  | [d1, d2] => { results := [.lit (.bool false)], args := [d1, d2] }
  | _ => none }
def TopDataWrongFalsely : Prop := topDataRow.holds Try.pinned (OpenSpec.ofChange topDataWrong)

/- THE SECOND FORM. 'bulk': how many values and letters a reading holds, each counted each time it is reached (what is shared counts as often as it is met; a slice's spare places count too). A statement '..UptoSaid' is the law's where the arguments, and the package variables that the reading takes, are together of bulk at most 1048576: NARROWER than '..Said'. Prove '..Said' where nothing that the law and all that it calls make is longer than what came in: it says more and counts as full. Else prove '..UptoSaid'. A law counts once. -/
mutual
def uptoBulk {H : Type} : DataW H → Nat
  | .lit (.string bytes) => bytes.length + 1
  | .lit _ => 1
  | .nil => 1
  | .ptr d => uptoBulk d + 1
  | .slice elems spare => uptoBulkAll elems + uptoBulkAll spare + 1
  | .agg parts => uptoBulkAll parts + 1
  | .iface _ d => uptoBulk d + 1
  | .map entries => uptoBulkEntries entries + 1
  | .held _ => 1
def uptoBulkAll {H : Type} : List (DataW H) → Nat
  | [] => 0
  | d :: r => uptoBulk d + uptoBulkAll r
def uptoBulkEntries {H : Type} : List (Lit × DataW H) → Nat
  | [] => 0
  | x :: r => uptoBulkEntry x + uptoBulkEntries r
def uptoBulkEntry {H : Type} : Lit × DataW H → Nat
  | (.string bytes, d) => bytes.length + uptoBulk d + 1
  | (_, d) => uptoBulk d + 1
 end
def uptoSmall : (H : Type) → List (DataW H) → Bool := fun _ ds => decide (uptoBulkAll ds ≤ 1048576)
def OpenSpec.upto (s : _root_.Go.ChangeSpec) : _root_.Go.OpenSpec := { _root_.Go.OpenSpec.ofChange s with cond := some uptoSmall }

/-- 'hardtacklaw41.MixTells', WHERE WHAT IT READS IS OF BULK AT MOST 1048576: true; the input reads as it did. -/
def mixTellsUptoRow : OpenClaim := { program := "ytbhphifndiadgaa", sum := "6349f14bc3e560c4d592fffcb8e5158b6f2e19bd91bf574195a25f4b0ee731a5", func := "hardtack/hardtacklaw41.MixTells", spec := "mixTells", unfollowed := true, recurses := true, apart := false, narrowed := true }
def MixTellsUptoSaid : Prop := mixTellsUptoRow.holds Try.pinned (OpenSpec.upto mixTellsSpec)

/-- 'hardtacklaw41.MixBack', WHERE WHAT IT READS IS OF BULK AT MOST 1048576: true; the input reads as it did. -/
def mixBackUptoRow : OpenClaim := { program := "ytbhphifndiadgaa", sum := "6349f14bc3e560c4d592fffcb8e5158b6f2e19bd91bf574195a25f4b0ee731a5", func := "hardtack/hardtacklaw41.MixBack", spec := "mixBack", unfollowed := true, recurses := true, apart := false, narrowed := true }
def MixBackUptoSaid : Prop := mixBackUptoRow.holds Try.pinned (OpenSpec.upto mixBackSpec)

/-- 'hardtacklaw41.MixDrawn', WHERE WHAT IT READS IS OF BULK AT MOST 1048576: true; the input reads as it did. -/
def mixDrawnUptoRow : OpenClaim := { program := "ytbhphifndiadgaa", sum := "6349f14bc3e560c4d592fffcb8e5158b6f2e19bd91bf574195a25f4b0ee731a5", func := "hardtack/hardtacklaw41.MixDrawn", spec := "mixDrawn", unfollowed := true, recurses := true, apart := false, narrowed := true }
def MixDrawnUptoSaid : Prop := mixDrawnUptoRow.holds Try.pinned (OpenSpec.upto mixDrawnSpec)

/-- 'hardtacklaw43.MinimMore', WHERE WHAT IT READS IS OF BULK AT MOST 1048576: true; the input reads as it did. -/
def minimMoreUptoRow : OpenClaim := { program := "ytbhphifndiadgaa", sum := "6349f14bc3e560c4d592fffcb8e5158b6f2e19bd91bf574195a25f4b0ee731a5", func := "hardtack/hardtacklaw43.MinimMore", spec := "minimMore", unfollowed := true, recurses := true, apart := false, narrowed := true }
def MinimMoreUptoSaid : Prop := minimMoreUptoRow.holds Try.pinned (OpenSpec.upto minimMoreSpec)

/-- 'hardtacktop.TopDepth', WHERE WHAT IT READS IS OF BULK AT MOST 1048576: true; the input reads as it did. -/
def topDepthUptoRow : OpenClaim := { program := "ytbhphifndiadgaa", sum := "6349f14bc3e560c4d592fffcb8e5158b6f2e19bd91bf574195a25f4b0ee731a5", func := "hardtack/hardtacktop.TopDepth", spec := "topDepth", unfollowed := true, recurses := true, apart := false, narrowed := true }
def TopDepthUptoSaid : Prop := topDepthUptoRow.holds Try.pinned (OpenSpec.upto topDepthSpec)

/-- 'hardtacklaw01.LabelUp', WHERE WHAT IT READS IS OF BULK AT MOST 1048576: true; the input reads as it did. -/
def labelUpUptoRow : OpenClaim := { program := "ytbhphifndiadgaa", sum := "6349f14bc3e560c4d592fffcb8e5158b6f2e19bd91bf574195a25f4b0ee731a5", func := "hardtack/hardtacklaw01.LabelUp", spec := "labelUp", inPlace := ["internal/abi.NoEscape"], unfollowed := true, recurses := true, apart := false, narrowed := true }
def LabelUpUptoSaid : Prop := labelUpUptoRow.holds Try.pinned (OpenSpec.upto labelUpSpec)

/-- 'hardtacklaw03.PackBack', WHERE WHAT IT READS IS OF BULK AT MOST 1048576: true; the input reads as it did. -/
def packBackUptoRow : OpenClaim := { program := "ytbhphifndiadgaa", sum := "6349f14bc3e560c4d592fffcb8e5158b6f2e19bd91bf574195a25f4b0ee731a5", func := "hardtack/hardtacklaw03.PackBack", spec := "packBack", unfollowed := true, recurses := true, apart := false, narrowed := true }
def PackBackUptoSaid : Prop := packBackUptoRow.holds Try.pinned (OpenSpec.upto packBackSpec)

/-- 'hardtacklaw03.PackEnds', WHERE WHAT IT READS IS OF BULK AT MOST 1048576: true; the input reads as it did. -/
def packEndsUptoRow : OpenClaim := { program := "ytbhphifndiadgaa", sum := "6349f14bc3e560c4d592fffcb8e5158b6f2e19bd91bf574195a25f4b0ee731a5", func := "hardtack/hardtacklaw03.PackEnds", spec := "packEnds", unfollowed := true, recurses := true, apart := false, narrowed := true }
def PackEndsUptoSaid : Prop := packEndsUptoRow.holds Try.pinned (OpenSpec.upto packEndsSpec)

/-- 'hardtacklaw02.WalkTells', WHERE WHAT IT READS IS OF BULK AT MOST 1048576: true; the input reads as it did. -/
def walkTellsUptoRow : OpenClaim := { program := "ytbhphifndiadgaa", sum := "6349f14bc3e560c4d592fffcb8e5158b6f2e19bd91bf574195a25f4b0ee731a5", func := "hardtack/hardtacklaw02.WalkTells", spec := "walkTells", unfollowed := true, recurses := true, apart := false, narrowed := true }
def WalkTellsUptoSaid : Prop := walkTellsUptoRow.holds Try.pinned (OpenSpec.upto walkTellsSpec)

/-- 'hardtacklaw02.WalkSorts', WHERE WHAT IT READS IS OF BULK AT MOST 1048576: true; the input reads as it did. -/
def walkSortsUptoRow : OpenClaim := { program := "ytbhphifndiadgaa", sum := "6349f14bc3e560c4d592fffcb8e5158b6f2e19bd91bf574195a25f4b0ee731a5", func := "hardtack/hardtacklaw02.WalkSorts", spec := "walkSorts", unfollowed := true, recurses := true, apart := false, narrowed := true }
def WalkSortsUptoSaid : Prop := walkSortsUptoRow.holds Try.pinned (OpenSpec.upto walkSortsSpec)

/-- 'hardtacklaw02.WalkOrder', WHERE WHAT IT READS IS OF BULK AT MOST 1048576: true; the input reads as it did. -/
def walkOrderUptoRow : OpenClaim := { program := "ytbhphifndiadgaa", sum := "6349f14bc3e560c4d592fffcb8e5158b6f2e19bd91bf574195a25f4b0ee731a5", func := "hardtack/hardtacklaw02.WalkOrder", spec := "walkOrder", unfollowed := true, recurses := true, apart := false, narrowed := true }
def WalkOrderUptoSaid : Prop := walkOrderUptoRow.holds Try.pinned (OpenSpec.upto walkOrderSpec)

/-- 'hardtacklaw02.WalkCommon', WHERE WHAT IT READS IS OF BULK AT MOST 1048576: true; the input reads as it did. -/
def walkCommonUptoRow : OpenClaim := { program := "ytbhphifndiadgaa", sum := "6349f14bc3e560c4d592fffcb8e5158b6f2e19bd91bf574195a25f4b0ee731a5", func := "hardtack/hardtacklaw02.WalkCommon", spec := "walkCommon", unfollowed := true, recurses := true, apart := false, narrowed := true }
def WalkCommonUptoSaid : Prop := walkCommonUptoRow.holds Try.pinned (OpenSpec.upto walkCommonSpec)

/-- 'hardtacklaw04.RdataTells', WHERE WHAT IT READS IS OF BULK AT MOST 1048576: true; the input reads as it did. -/
def rdataTellsUptoRow : OpenClaim := { program := "ytbhphifndiadgaa", sum := "6349f14bc3e560c4d592fffcb8e5158b6f2e19bd91bf574195a25f4b0ee731a5", func := "hardtack/hardtacklaw04.RdataTells", spec := "rdataTells", inPlace := ["internal/abi.NoEscape", "internal/bytealg.MakeNoZero"], unfollowed := true, recurses := true, apart := false, narrowed := true }
def RdataTellsUptoSaid : Prop := rdataTellsUptoRow.holds Try.pinned (OpenSpec.upto rdataTellsSpec)

/-- 'hardtacklaw04.RdataBack', WHERE WHAT IT READS IS OF BULK AT MOST 1048576: true; the input reads as it did. -/
def rdataBackUptoRow : OpenClaim := { program := "ytbhphifndiadgaa", sum := "6349f14bc3e560c4d592fffcb8e5158b6f2e19bd91bf574195a25f4b0ee731a5", func := "hardtack/hardtacklaw04.RdataBack", spec := "rdataBack", inPlace := ["internal/abi.NoEscape", "internal/bytealg.MakeNoZero"], unfollowed := true, recurses := true, apart := false, narrowed := true }
def RdataBackUptoSaid : Prop := rdataBackUptoRow.holds Try.pinned (OpenSpec.upto rdataBackSpec)

/-- 'hardtacktop.TopNames', WHERE WHAT IT READS IS OF BULK AT MOST 1048576: true; the input reads as it did. -/
def topNamesUptoRow : OpenClaim := { program := "ytbhphifndiadgaa", sum := "6349f14bc3e560c4d592fffcb8e5158b6f2e19bd91bf574195a25f4b0ee731a5", func := "hardtack/hardtacktop.TopNames", spec := "topNames", inPlace := ["internal/abi.NoEscape"], unfollowed := true, recurses := true, apart := false, narrowed := true }
def TopNamesUptoSaid : Prop := topNamesUptoRow.holds Try.pinned (OpenSpec.upto topNamesSpec)

/-- 'hardtacktop.TopData', WHERE WHAT IT READS IS OF BULK AT MOST 1048576: true; the input reads as it did. -/
def topDataUptoRow : OpenClaim := { program := "ytbhphifndiadgaa", sum := "6349f14bc3e560c4d592fffcb8e5158b6f2e19bd91bf574195a25f4b0ee731a5", func := "hardtack/hardtacktop.TopData", spec := "topData", inPlace := ["internal/abi.NoEscape"], unfollowed := true, recurses := true, apart := false, narrowed := true }
def TopDataUptoSaid : Prop := topDataUptoRow.holds Try.pinned (OpenSpec.upto topDataSpec)

end Rows
end Go.Proofs.Ytbhphifndiadgaa
