/-
  No cell of these rows narrows 'for every input' (looked for: loops, veiled, ifaces, maps, wideKeys, modest, calm, conditions, laid).
  DERIVED. THE GIVEN ROWS OF THIS SEAT. 9 by the template 'for every input the law returns true; each argument reads behind the call as it read before'; 0 by the template 'total and deterministic' (their statements: YtkjefohkhdadaaaTotals.lean).
  GIVEN WITH THE SEED: the statements are not yours to turn. If you find one false, say at which input.
  Laid BY PROGRAM, IN A SANDBOX (cutbox-rows.mjs): the forced cells as the released guide's own fill.sh prints them over the translation 71114e762cb699ac… (all of the seat's roots in one cut). By AI agents, Wed Nov 11 2026. No macro, syntax, notation, axiom, sorry.
-/
import Derived.Test.YtkjefohkhdadaaaChecked
import GoSem.Claim
import GoSem.ClaimJoined
import GoSem.ClaimMapViews
import Derived.JoinedTies
import Derived.KernelRfl
namespace Go.Proofs.Ytkjefohkhdadaaa
/- THE CELL 'sum', in the pinned program and in every row, IS THE sha256 OF THE DUMP (.gsa) THAT YtkjefohkhdadaaaProg.lean LOADS. Nothing in Lean hashes anything: it is a label: what it is worth is what the hold of that sum in a sandbox is worth. -/
noncomputable def Try.pinned : Pinned := { name := "ytkjefohkhdadaaa", sum := "71114e762cb699acf27092142da4ce20624b9bc8f9f6355383cc49b8e4a46a92", checked := Try.checked }
namespace Rows
def none {H : Type} : Left H := { results := [], args := [] }

/-- 'hardtacklaw03.PackBack': WHATEVER THE INPUT: true; the input reads as it did. -/
def packBackSpec : ChangeSpec := { name := "packBack", fn := fun _ => fun
  | [d1, d2, d3] => { results := [.lit (.bool true)], args := [d1, d2, d3] }
  | _ => none }
def packBackRow : OpenClaim := { program := "ytkjefohkhdadaaa", sum := "71114e762cb699acf27092142da4ce20624b9bc8f9f6355383cc49b8e4a46a92", func := "hardtack/hardtacklaw03.PackBack", spec := "packBack", unfollowed := true, recurses := true, plainKeys := false, apart := false }
def PackBackSaid : Prop := packBackRow.holds Try.pinned (OpenSpec.ofChange packBackSpec)

/-- ITS FALSE NEIGHBOUR: 'it returns false'. Refute it at one input. -/
def packBackWrong : ChangeSpec := { name := "packBack", fn := fun _ => fun
  | [d1, d2, d3] => { results := [.lit (.bool false)], args := [d1, d2, d3] }
  | _ => none }
def PackBackWrongFalsely : Prop := packBackRow.holds Try.pinned (OpenSpec.ofChange packBackWrong)

/-- 'hardtacklaw03.PackEnds': WHATEVER THE INPUT: true; the input reads as it did. -/
def packEndsSpec : ChangeSpec := { name := "packEnds", fn := fun _ => fun
  | [d1, d2] => { results := [.lit (.bool true)], args := [d1, d2] }
  | _ => none }
def packEndsRow : OpenClaim := { program := "ytkjefohkhdadaaa", sum := "71114e762cb699acf27092142da4ce20624b9bc8f9f6355383cc49b8e4a46a92", func := "hardtack/hardtacklaw03.PackEnds", spec := "packEnds", unfollowed := true, recurses := true, plainKeys := false, apart := false }
def PackEndsSaid : Prop := packEndsRow.holds Try.pinned (OpenSpec.ofChange packEndsSpec)

/-- ITS FALSE NEIGHBOUR: 'it returns false'. Refute it at one input. -/
def packEndsWrong : ChangeSpec := { name := "packEnds", fn := fun _ => fun
  | [d1, d2] => { results := [.lit (.bool false)], args := [d1, d2] }
  | _ => none }
def PackEndsWrongFalsely : Prop := packEndsRow.holds Try.pinned (OpenSpec.ofChange packEndsWrong)

/-- 'hardtacklaw20.ScrubTells': WHATEVER THE INPUT: true; the input reads as it did. -/
def scrubTellsSpec : ChangeSpec := { name := "scrubTells", fn := fun _ => fun
  | [d1, d2, d3] => { results := [.lit (.bool true)], args := [d1, d2, d3] }
  | _ => none }
def scrubTellsRow : OpenClaim := { program := "ytkjefohkhdadaaa", sum := "71114e762cb699acf27092142da4ce20624b9bc8f9f6355383cc49b8e4a46a92", func := "hardtack/hardtacklaw20.ScrubTells", spec := "scrubTells", unfollowed := true, recurses := true, plainKeys := false, apart := false }
def ScrubTellsSaid : Prop := scrubTellsRow.holds Try.pinned (OpenSpec.ofChange scrubTellsSpec)

/-- ITS FALSE NEIGHBOUR: 'it returns false'. Refute it at one input. -/
def scrubTellsWrong : ChangeSpec := { name := "scrubTells", fn := fun _ => fun
  | [d1, d2, d3] => { results := [.lit (.bool false)], args := [d1, d2, d3] }
  | _ => none }
def ScrubTellsWrongFalsely : Prop := scrubTellsRow.holds Try.pinned (OpenSpec.ofChange scrubTellsWrong)

/-- 'hardtacklaw20.ScrubBeyond': WHATEVER THE INPUT: true; the input reads as it did. -/
def scrubBeyondSpec : ChangeSpec := { name := "scrubBeyond", fn := fun _ => fun
  | [d1, d2, d3] => { results := [.lit (.bool true)], args := [d1, d2, d3] }
  | _ => none }
def scrubBeyondRow : OpenClaim := { program := "ytkjefohkhdadaaa", sum := "71114e762cb699acf27092142da4ce20624b9bc8f9f6355383cc49b8e4a46a92", func := "hardtack/hardtacklaw20.ScrubBeyond", spec := "scrubBeyond", unfollowed := true, recurses := true, plainKeys := false, apart := false }
def ScrubBeyondSaid : Prop := scrubBeyondRow.holds Try.pinned (OpenSpec.ofChange scrubBeyondSpec)

/-- ITS FALSE NEIGHBOUR: 'it returns false'. Refute it at one input. -/
def scrubBeyondWrong : ChangeSpec := { name := "scrubBeyond", fn := fun _ => fun
  | [d1, d2, d3] => { results := [.lit (.bool false)], args := [d1, d2, d3] }
  | _ => none }
def ScrubBeyondWrongFalsely : Prop := scrubBeyondRow.holds Try.pinned (OpenSpec.ofChange scrubBeyondWrong)

/-- 'hardtacklaw07.EdnsBack': WHATEVER THE INPUT: true; the input reads as it did. -/
def ednsBackSpec : ChangeSpec := { name := "ednsBack", fn := fun _ => fun
  | [d1, d2, d3, d4] => { results := [.lit (.bool true)], args := [d1, d2, d3, d4] }
  | _ => none }
def ednsBackRow : OpenClaim := { program := "ytkjefohkhdadaaa", sum := "71114e762cb699acf27092142da4ce20624b9bc8f9f6355383cc49b8e4a46a92", func := "hardtack/hardtacklaw07.EdnsBack", spec := "ednsBack", unfollowed := true, recurses := true, plainKeys := false, apart := false }
def EdnsBackSaid : Prop := ednsBackRow.holds Try.pinned (OpenSpec.ofChange ednsBackSpec)

/-- ITS FALSE NEIGHBOUR: 'it returns false'. Refute it at one input. -/
def ednsBackWrong : ChangeSpec := { name := "ednsBack", fn := fun _ => fun
  | [d1, d2, d3, d4] => { results := [.lit (.bool false)], args := [d1, d2, d3, d4] }
  | _ => none }
def EdnsBackWrongFalsely : Prop := ednsBackRow.holds Try.pinned (OpenSpec.ofChange ednsBackWrong)

/-- 'hardtacklaw04.RdataTells': WHATEVER THE INPUT: true; the input reads as it did. -/
def rdataTellsSpec : ChangeSpec := { name := "rdataTells", fn := fun _ => fun
  | [d1, d2] => { results := [.lit (.bool true)], args := [d1, d2] }
  | _ => none }
def rdataTellsRow : OpenClaim := { program := "ytkjefohkhdadaaa", sum := "71114e762cb699acf27092142da4ce20624b9bc8f9f6355383cc49b8e4a46a92", func := "hardtack/hardtacklaw04.RdataTells", spec := "rdataTells", inPlace := ["internal/abi.NoEscape", "internal/bytealg.MakeNoZero"], unfollowed := true, recurses := true, plainKeys := false, apart := false }
def RdataTellsSaid : Prop := rdataTellsRow.holds Try.pinned (OpenSpec.ofChange rdataTellsSpec)

/-- ITS FALSE NEIGHBOUR: 'it returns false'. Refute it at one input. -/
def rdataTellsWrong : ChangeSpec := { name := "rdataTells", fn := fun _ => fun
  | [d1, d2] => { results := [.lit (.bool false)], args := [d1, d2] }
  | _ => none }
def RdataTellsWrongFalsely : Prop := rdataTellsRow.holds Try.pinned (OpenSpec.ofChange rdataTellsWrong)

/-- 'hardtacklaw04.RdataBack': WHATEVER THE INPUT: true; the input reads as it did. -/
def rdataBackSpec : ChangeSpec := { name := "rdataBack", fn := fun _ => fun
  | [d1, d2, d3, d4] => { results := [.lit (.bool true)], args := [d1, d2, d3, d4] }
  | _ => none }
def rdataBackRow : OpenClaim := { program := "ytkjefohkhdadaaa", sum := "71114e762cb699acf27092142da4ce20624b9bc8f9f6355383cc49b8e4a46a92", func := "hardtack/hardtacklaw04.RdataBack", spec := "rdataBack", inPlace := ["internal/abi.NoEscape", "internal/bytealg.MakeNoZero"], unfollowed := true, recurses := true, plainKeys := false, apart := false }
def RdataBackSaid : Prop := rdataBackRow.holds Try.pinned (OpenSpec.ofChange rdataBackSpec)

/-- ITS FALSE NEIGHBOUR: 'it returns false'. Refute it at one input. -/
def rdataBackWrong : ChangeSpec := { name := "rdataBack", fn := fun _ => fun
  | [d1, d2, d3, d4] => { results := [.lit (.bool false)], args := [d1, d2, d3, d4] }
  | _ => none }
def RdataBackWrongFalsely : Prop := rdataBackRow.holds Try.pinned (OpenSpec.ofChange rdataBackWrong)

/-- 'hardtacktop.TopTrusted': WHATEVER THE INPUT: true; the input reads as it did. -/
def topTrustedSpec : ChangeSpec := { name := "topTrusted", fn := fun _ => fun
  | [d1, d2, d3, d4, d5] => { results := [.lit (.bool true)], args := [d1, d2, d3, d4, d5] }
  | _ => none }
def topTrustedRow : OpenClaim := { program := "ytkjefohkhdadaaa", sum := "71114e762cb699acf27092142da4ce20624b9bc8f9f6355383cc49b8e4a46a92", func := "hardtack/hardtacktop.TopTrusted", spec := "topTrusted", unfollowed := true, recurses := true, plainKeys := false, apart := false }
def TopTrustedSaid : Prop := topTrustedRow.holds Try.pinned (OpenSpec.ofChange topTrustedSpec)

/-- ITS FALSE NEIGHBOUR: 'it returns false'. Refute it at one input. -/
def topTrustedWrong : ChangeSpec := { name := "topTrusted", fn := fun _ => fun
  | [d1, d2, d3, d4, d5] => { results := [.lit (.bool false)], args := [d1, d2, d3, d4, d5] }
  | _ => none }
def TopTrustedWrongFalsely : Prop := topTrustedRow.holds Try.pinned (OpenSpec.ofChange topTrustedWrong)

/-- 'hardtacktop.TopData': WHATEVER THE INPUT: true; the input reads as it did. -/
def topDataSpec : ChangeSpec := { name := "topData", fn := fun _ => fun
  | [d1, d2] => { results := [.lit (.bool true)], args := [d1, d2] }
  | _ => none }
def topDataRow : OpenClaim := { program := "ytkjefohkhdadaaa", sum := "71114e762cb699acf27092142da4ce20624b9bc8f9f6355383cc49b8e4a46a92", func := "hardtack/hardtacktop.TopData", spec := "topData", inPlace := ["internal/abi.NoEscape"], unfollowed := true, recurses := true, plainKeys := false, apart := false }
def TopDataSaid : Prop := topDataRow.holds Try.pinned (OpenSpec.ofChange topDataSpec)

/-- ITS FALSE NEIGHBOUR: 'it returns false'. Refute it at one input. -/
def topDataWrong : ChangeSpec := { name := "topData", fn := fun _ => fun
  | [d1, d2] => { results := [.lit (.bool false)], args := [d1, d2] }
  | _ => none }
def TopDataWrongFalsely : Prop := topDataRow.holds Try.pinned (OpenSpec.ofChange topDataWrong)

/- THE SECOND FORM. 'bulk': how many values and letters a reading holds, each counted each time it is reached (what is shared counts as often as it is met; a slice's spare places count too). A statement '..UptoSaid' is the law's where the arguments, and the package variables that the reading takes, are together of bulk at most 1048576: NARROWER than '..Said'. Prove '..Said' where nothing that the law and all that it calls make is longer than what came in: it says more and counts as full. Else prove '..UptoSaid'. A law counts once. -/
mutual
def uptoBulk {H : Type} : DataW H → Nat
  | .lit (.string bytes) => bytes.length + 1
  | .lit _ => 1
  | .nil => 1
  | .ptr d => uptoBulk d + 1
  | .slice elems spare => uptoBulkAll elems + uptoBulkAll spare + 1
  | .agg parts => uptoBulkAll parts + 1
  | .iface _ d => uptoBulk d + 1
  | .map entries => uptoBulkEntries entries + 1
  | .held _ => 1
def uptoBulkAll {H : Type} : List (DataW H) → Nat
  | [] => 0
  | d :: r => uptoBulk d + uptoBulkAll r
def uptoBulkEntries {H : Type} : List (Lit × DataW H) → Nat
  | [] => 0
  | x :: r => uptoBulkEntry x + uptoBulkEntries r
def uptoBulkEntry {H : Type} : Lit × DataW H → Nat
  | (.string bytes, d) => bytes.length + uptoBulk d + 1
  | (_, d) => uptoBulk d + 1
 end
def uptoSmall : (H : Type) → List (DataW H) → Bool := fun _ ds => decide (uptoBulkAll ds ≤ 1048576)
def OpenSpec.upto (s : _root_.Go.ChangeSpec) : _root_.Go.OpenSpec := { _root_.Go.OpenSpec.ofChange s with cond := some uptoSmall }

/-- 'hardtacklaw03.PackBack', WHERE WHAT IT READS IS OF BULK AT MOST 1048576: true; the input reads as it did. -/
def packBackUptoRow : OpenClaim := { program := "ytkjefohkhdadaaa", sum := "71114e762cb699acf27092142da4ce20624b9bc8f9f6355383cc49b8e4a46a92", func := "hardtack/hardtacklaw03.PackBack", spec := "packBack", unfollowed := true, recurses := true, plainKeys := false, apart := false, narrowed := true }
def PackBackUptoSaid : Prop := packBackUptoRow.holds Try.pinned (OpenSpec.upto packBackSpec)

/-- 'hardtacklaw03.PackEnds', WHERE WHAT IT READS IS OF BULK AT MOST 1048576: true; the input reads as it did. -/
def packEndsUptoRow : OpenClaim := { program := "ytkjefohkhdadaaa", sum := "71114e762cb699acf27092142da4ce20624b9bc8f9f6355383cc49b8e4a46a92", func := "hardtack/hardtacklaw03.PackEnds", spec := "packEnds", unfollowed := true, recurses := true, plainKeys := false, apart := false, narrowed := true }
def PackEndsUptoSaid : Prop := packEndsUptoRow.holds Try.pinned (OpenSpec.upto packEndsSpec)

/-- 'hardtacklaw20.ScrubTells', WHERE WHAT IT READS IS OF BULK AT MOST 1048576: true; the input reads as it did. -/
def scrubTellsUptoRow : OpenClaim := { program := "ytkjefohkhdadaaa", sum := "71114e762cb699acf27092142da4ce20624b9bc8f9f6355383cc49b8e4a46a92", func := "hardtack/hardtacklaw20.ScrubTells", spec := "scrubTells", unfollowed := true, recurses := true, plainKeys := false, apart := false, narrowed := true }
def ScrubTellsUptoSaid : Prop := scrubTellsUptoRow.holds Try.pinned (OpenSpec.upto scrubTellsSpec)

/-- 'hardtacklaw20.ScrubBeyond', WHERE WHAT IT READS IS OF BULK AT MOST 1048576: true; the input reads as it did. -/
def scrubBeyondUptoRow : OpenClaim := { program := "ytkjefohkhdadaaa", sum := "71114e762cb699acf27092142da4ce20624b9bc8f9f6355383cc49b8e4a46a92", func := "hardtack/hardtacklaw20.ScrubBeyond", spec := "scrubBeyond", unfollowed := true, recurses := true, plainKeys := false, apart := false, narrowed := true }
def ScrubBeyondUptoSaid : Prop := scrubBeyondUptoRow.holds Try.pinned (OpenSpec.upto scrubBeyondSpec)

/-- 'hardtacklaw07.EdnsBack', WHERE WHAT IT READS IS OF BULK AT MOST 1048576: true; the input reads as it did. -/
def ednsBackUptoRow : OpenClaim := { program := "ytkjefohkhdadaaa", sum := "71114e762cb699acf27092142da4ce20624b9bc8f9f6355383cc49b8e4a46a92", func := "hardtack/hardtacklaw07.EdnsBack", spec := "ednsBack", unfollowed := true, recurses := true, plainKeys := false, apart := false, narrowed := true }
def EdnsBackUptoSaid : Prop := ednsBackUptoRow.holds Try.pinned (OpenSpec.upto ednsBackSpec)

/-- 'hardtacklaw04.RdataTells', WHERE WHAT IT READS IS OF BULK AT MOST 1048576: true; the input reads as it did. -/
def rdataTellsUptoRow : OpenClaim := { program := "ytkjefohkhdadaaa", sum := "71114e762cb699acf27092142da4ce20624b9bc8f9f6355383cc49b8e4a46a92", func := "hardtack/hardtacklaw04.RdataTells", spec := "rdataTells", inPlace := ["internal/abi.NoEscape", "internal/bytealg.MakeNoZero"], unfollowed := true, recurses := true, plainKeys := false, apart := false, narrowed := true }
def RdataTellsUptoSaid : Prop := rdataTellsUptoRow.holds Try.pinned (OpenSpec.upto rdataTellsSpec)

/-- 'hardtacklaw04.RdataBack', WHERE WHAT IT READS IS OF BULK AT MOST 1048576: true; the input reads as it did. -/
def rdataBackUptoRow : OpenClaim := { program := "ytkjefohkhdadaaa", sum := "71114e762cb699acf27092142da4ce20624b9bc8f9f6355383cc49b8e4a46a92", func := "hardtack/hardtacklaw04.RdataBack", spec := "rdataBack", inPlace := ["internal/abi.NoEscape", "internal/bytealg.MakeNoZero"], unfollowed := true, recurses := true, plainKeys := false, apart := false, narrowed := true }
def RdataBackUptoSaid : Prop := rdataBackUptoRow.holds Try.pinned (OpenSpec.upto rdataBackSpec)

/-- 'hardtacktop.TopTrusted', WHERE WHAT IT READS IS OF BULK AT MOST 1048576: true; the input reads as it did. -/
def topTrustedUptoRow : OpenClaim := { program := "ytkjefohkhdadaaa", sum := "71114e762cb699acf27092142da4ce20624b9bc8f9f6355383cc49b8e4a46a92", func := "hardtack/hardtacktop.TopTrusted", spec := "topTrusted", unfollowed := true, recurses := true, plainKeys := false, apart := false, narrowed := true }
def TopTrustedUptoSaid : Prop := topTrustedUptoRow.holds Try.pinned (OpenSpec.upto topTrustedSpec)

/-- 'hardtacktop.TopData', WHERE WHAT IT READS IS OF BULK AT MOST 1048576: true; the input reads as it did. -/
def topDataUptoRow : OpenClaim := { program := "ytkjefohkhdadaaa", sum := "71114e762cb699acf27092142da4ce20624b9bc8f9f6355383cc49b8e4a46a92", func := "hardtack/hardtacktop.TopData", spec := "topData", inPlace := ["internal/abi.NoEscape"], unfollowed := true, recurses := true, plainKeys := false, apart := false, narrowed := true }
def TopDataUptoSaid : Prop := topDataUptoRow.holds Try.pinned (OpenSpec.upto topDataSpec)

end Rows
end Go.Proofs.Ytkjefohkhdadaaa
