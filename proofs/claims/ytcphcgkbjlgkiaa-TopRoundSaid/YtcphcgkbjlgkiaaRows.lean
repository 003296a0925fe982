/-
  No cell of these rows narrows 'for every input' (looked for: loops, veiled, ifaces, maps, wideKeys, modest, calm, conditions, laid).
  DERIVED. THE GIVEN ROWS OF THIS SEAT. 9 by the template 'for every input the law returns true; each argument reads behind the call as it read before'; 0 by the template 'total and deterministic' (their statements: YtcphcgkbjlgkiaaTotals.lean).
  GIVEN WITH THE SEED: the statements are not yours to turn. If you find one false, say at which input.
  Laid BY PROGRAM, IN A SANDBOX (cutbox-rows.mjs): the forced cells as the released guide's own fill.sh prints them over the translation bef529df2ffbbd4e… (all of the seat's roots in one cut). By AI agents, Wed Nov 11 2026. No macro, syntax, notation, axiom, sorry.
-/
import Derived.Test.YtcphcgkbjlgkiaaChecked
import GoSem.Claim
import GoSem.ClaimJoined
import GoSem.ClaimMapViews
import Derived.JoinedTies
import Derived.KernelRfl
namespace Go.Proofs.Ytcphcgkbjlgkiaa
/- THE CELL 'sum', in the pinned program and in every row, IS THE sha256 OF THE DUMP (.gsa) THAT YtcphcgkbjlgkiaaProg.lean LOADS. Nothing in Lean hashes anything: it is a label: what it is worth is what the hold of that sum in a sandbox is worth. -/
noncomputable def Try.pinned : Pinned := { name := "ytcphcgkbjlgkiaa", sum := "bef529df2ffbbd4eaeec5bd228623ed17c7560f4257d28f80414c7750f830964", checked := Try.checked }
namespace Rows
def none {H : Type} : Left H := { results := [], args := [] }

/-- 'hardtacktop.TopTable': WHATEVER THE INPUT: true; the input reads as it did. -/
def topTableSpec : ChangeSpec := { name := "topTable", fn := fun _ => fun
  | [d1, d2, d3] => { results := [.lit (.bool true)], args := [d1, d2, d3] }
  | _ => none }
def topTableRow : OpenClaim := { program := "ytcphcgkbjlgkiaa", sum := "bef529df2ffbbd4eaeec5bd228623ed17c7560f4257d28f80414c7750f830964", func := "hardtack/hardtacktop.TopTable", spec := "topTable", unfollowed := true, recurses := true, plainKeys := false, apart := false }
def TopTableSaid : Prop := topTableRow.holds Try.pinned (OpenSpec.ofChange topTableSpec)

/-- ITS FALSE NEIGHBOUR: 'it returns false'. Refute it at one input. -/
def topTableWrong : ChangeSpec := { name := "topTable", fn := fun _ => fun
  | [d1, d2, d3] => { results := [.lit (.bool false)], args := [d1, d2, d3] }
  | _ => none }
def TopTableWrongFalsely : Prop := topTableRow.holds Try.pinned (OpenSpec.ofChange topTableWrong)

/-- 'hardtacklaw11.AskTells': WHATEVER THE INPUT: true; the input reads as it did. -/
def askTellsSpec : ChangeSpec := { name := "askTells", fn := fun _ => fun
  | [d1, d2, d3, d4, d5, d6] => { results := [.lit (.bool true)], args := [d1, d2, d3, d4, d5, d6] }
  | _ => none }
def askTellsRow : OpenClaim := { program := "ytcphcgkbjlgkiaa", sum := "bef529df2ffbbd4eaeec5bd228623ed17c7560f4257d28f80414c7750f830964", func := "hardtack/hardtacklaw11.AskTells", spec := "askTells", unfollowed := true, recurses := true, plainKeys := false, apart := false }
def AskTellsSaid : Prop := askTellsRow.holds Try.pinned (OpenSpec.ofChange askTellsSpec)

/-- ITS FALSE NEIGHBOUR: 'it returns false'. Refute it at one input. -/
def askTellsWrong : ChangeSpec := { name := "askTells", fn := fun _ => fun
  | [d1, d2, d3, d4, d5, d6] => { results := [.lit (.bool false)], args := [d1, d2, d3, d4, d5, d6] }
  | _ => none }
def AskTellsWrongFalsely : Prop := askTellsRow.holds Try.pinned (OpenSpec.ofChange askTellsWrong)

/-- 'hardtacklaw11.AskOwn': WHATEVER THE INPUT: true; the input reads as it did. -/
def askOwnSpec : ChangeSpec := { name := "askOwn", fn := fun _ => fun
  | [d1, d2, d3, d4, d5] => { results := [.lit (.bool true)], args := [d1, d2, d3, d4, d5] }
  | _ => none }
def askOwnRow : OpenClaim := { program := "ytcphcgkbjlgkiaa", sum := "bef529df2ffbbd4eaeec5bd228623ed17c7560f4257d28f80414c7750f830964", func := "hardtack/hardtacklaw11.AskOwn", spec := "askOwn", unfollowed := true, recurses := true, plainKeys := false, apart := false }
def AskOwnSaid : Prop := askOwnRow.holds Try.pinned (OpenSpec.ofChange askOwnSpec)

/-- ITS FALSE NEIGHBOUR: 'it returns false'. Refute it at one input. -/
def askOwnWrong : ChangeSpec := { name := "askOwn", fn := fun _ => fun
  | [d1, d2, d3, d4, d5] => { results := [.lit (.bool false)], args := [d1, d2, d3, d4, d5] }
  | _ => none }
def AskOwnWrongFalsely : Prop := askOwnRow.holds Try.pinned (OpenSpec.ofChange askOwnWrong)

/-- 'hardtacklaw11.AskApart': WHATEVER THE INPUT: true; the input reads as it did. -/
def askApartSpec : ChangeSpec := { name := "askApart", fn := fun _ => fun
  | [d1, d2, d3, d4] => { results := [.lit (.bool true)], args := [d1, d2, d3, d4] }
  | _ => none }
def askApartRow : OpenClaim := { program := "ytcphcgkbjlgkiaa", sum := "bef529df2ffbbd4eaeec5bd228623ed17c7560f4257d28f80414c7750f830964", func := "hardtack/hardtacklaw11.AskApart", spec := "askApart", unfollowed := true, recurses := true, plainKeys := false, apart := false }
def AskApartSaid : Prop := askApartRow.holds Try.pinned (OpenSpec.ofChange askApartSpec)

/-- ITS FALSE NEIGHBOUR: 'it returns false'. Refute it at one input. -/
def askApartWrong : ChangeSpec := { name := "askApart", fn := fun _ => fun
  | [d1, d2, d3, d4] => { results := [.lit (.bool false)], args := [d1, d2, d3, d4] }
  | _ => none }
def AskApartWrongFalsely : Prop := askApartRow.holds Try.pinned (OpenSpec.ofChange askApartWrong)

/-- 'hardtacklaw12.GiveTells': WHATEVER THE INPUT: true; the input reads as it did. -/
def giveTellsSpec : ChangeSpec := { name := "giveTells", fn := fun _ => fun
  | [d1, d2, d3, d4, d5, d6] => { results := [.lit (.bool true)], args := [d1, d2, d3, d4, d5, d6] }
  | _ => none }
def giveTellsRow : OpenClaim := { program := "ytcphcgkbjlgkiaa", sum := "bef529df2ffbbd4eaeec5bd228623ed17c7560f4257d28f80414c7750f830964", func := "hardtack/hardtacklaw12.GiveTells", spec := "giveTells", unfollowed := true, recurses := true, plainKeys := false, apart := false }
def GiveTellsSaid : Prop := giveTellsRow.holds Try.pinned (OpenSpec.ofChange giveTellsSpec)

/-- ITS FALSE NEIGHBOUR: 'it returns false'. Refute it at one input. -/
def giveTellsWrong : ChangeSpec := { name := "giveTells", fn := fun _ => fun
  | [d1, d2, d3, d4, d5, d6] => { results := [.lit (.bool false)], args := [d1, d2, d3, d4, d5, d6] }
  | _ => none }
def GiveTellsWrongFalsely : Prop := giveTellsRow.holds Try.pinned (OpenSpec.ofChange giveTellsWrong)

/-- 'hardtacklaw12.GiveBack': WHATEVER THE INPUT: true; the input reads as it did. -/
def giveBackSpec : ChangeSpec := { name := "giveBack", fn := fun _ => fun
  | [d1, d2, d3, d4, d5, d6, d7] => { results := [.lit (.bool true)], args := [d1, d2, d3, d4, d5, d6, d7] }
  | _ => none }
def giveBackRow : OpenClaim := { program := "ytcphcgkbjlgkiaa", sum := "bef529df2ffbbd4eaeec5bd228623ed17c7560f4257d28f80414c7750f830964", func := "hardtack/hardtacklaw12.GiveBack", spec := "giveBack", unfollowed := true, recurses := true, plainKeys := false, apart := false }
def GiveBackSaid : Prop := giveBackRow.holds Try.pinned (OpenSpec.ofChange giveBackSpec)

/-- ITS FALSE NEIGHBOUR: 'it returns false'. Refute it at one input. -/
def giveBackWrong : ChangeSpec := { name := "giveBack", fn := fun _ => fun
  | [d1, d2, d3, d4, d5, d6, d7] => { results := [.lit (.bool false)], args := [d1, d2, d3, d4, d5, d6, d7] }
  | _ => none }
def GiveBackWrongFalsely : Prop := giveBackRow.holds Try.pinned (OpenSpec.ofChange giveBackWrong)

/-- 'hardtacklaw12.GiveOwn': WHATEVER THE INPUT: true; the input reads as it did. -/
def giveOwnSpec : ChangeSpec := { name := "giveOwn", fn := fun _ => fun
  | [d1, d2, d3, d4, d5, d6] => { results := [.lit (.bool true)], args := [d1, d2, d3, d4, d5, d6] }
  | _ => none }
def giveOwnRow : OpenClaim := { program := "ytcphcgkbjlgkiaa", sum := "bef529df2ffbbd4eaeec5bd228623ed17c7560f4257d28f80414c7750f830964", func := "hardtack/hardtacklaw12.GiveOwn", spec := "giveOwn", unfollowed := true, recurses := true, plainKeys := false, apart := false }
def GiveOwnSaid : Prop := giveOwnRow.holds Try.pinned (OpenSpec.ofChange giveOwnSpec)

/-- ITS FALSE NEIGHBOUR: 'it returns false'. Refute it at one input. -/
def giveOwnWrong : ChangeSpec := { name := "giveOwn", fn := fun _ => fun
  | [d1, d2, d3, d4, d5, d6] => { results := [.lit (.bool false)], args := [d1, d2, d3, d4, d5, d6] }
  | _ => none }
def GiveOwnWrongFalsely : Prop := giveOwnRow.holds Try.pinned (OpenSpec.ofChange giveOwnWrong)

/-- 'hardtacktop.TopOptions': WHATEVER THE INPUT: true; the input reads as it did. -/
def topOptionsSpec : ChangeSpec := { name := "topOptions", fn := fun _ => fun
  | [d1, d2, d3, d4] => { results := [.lit (.bool true)], args := [d1, d2, d3, d4] }
  | _ => none }
def topOptionsRow : OpenClaim := { program := "ytcphcgkbjlgkiaa", sum := "bef529df2ffbbd4eaeec5bd228623ed17c7560f4257d28f80414c7750f830964", func := "hardtack/hardtacktop.TopOptions", spec := "topOptions", unfollowed := true, recurses := true, plainKeys := false, apart := false }
def TopOptionsSaid : Prop := topOptionsRow.holds Try.pinned (OpenSpec.ofChange topOptionsSpec)

/-- ITS FALSE NEIGHBOUR: 'it returns false'. Refute it at one input. -/
def topOptionsWrong : ChangeSpec := { name := "topOptions", fn := fun _ => fun
  | [d1, d2, d3, d4] => { results := [.lit (.bool false)], args := [d1, d2, d3, d4] }
  | _ => none }
def TopOptionsWrongFalsely : Prop := topOptionsRow.holds Try.pinned (OpenSpec.ofChange topOptionsWrong)

/-- 'hardtacktop.TopRound': WHATEVER THE INPUT: true; the input reads as it did. -/
def topRoundSpec : ChangeSpec := { name := "topRound", fn := fun _ => fun
  | [d1, d2, d3, d4, d5, d6, d7, d8] => { results := [.lit (.bool true)], args := [d1, d2, d3, d4, d5, d6, d7, d8] }
  | _ => none }
def topRoundRow : OpenClaim := { program := "ytcphcgkbjlgkiaa", sum := "bef529df2ffbbd4eaeec5bd228623ed17c7560f4257d28f80414c7750f830964", func := "hardtack/hardtacktop.TopRound", spec := "topRound", unfollowed := true, recurses := true, plainKeys := false, apart := false }
def TopRoundSaid : Prop := topRoundRow.holds Try.pinned (OpenSpec.ofChange topRoundSpec)

/-- ITS FALSE NEIGHBOUR: 'it returns false'. Refute it at one input. -/
def topRoundWrong : ChangeSpec := { name := "topRound", fn := fun _ => fun
  | [d1, d2, d3, d4, d5, d6, d7, d8] => { results := [.lit (.bool false)], args := [d1, d2, d3, d4, d5, d6, d7, d8] }
  | _ => none }
def TopRoundWrongFalsely : Prop := topRoundRow.holds Try.pinned (OpenSpec.ofChange topRoundWrong)

/- THE SECOND FORM. 'bulk': how many values and letters a reading holds, each counted each time it is reached (what is shared counts as often as it is met; a slice's spare places count too). A statement '..UptoSaid' is the law's where the arguments, and the package variables that the reading takes, are together of bulk at most 1048576: NARROWER than '..Said'. Prove '..Said' where nothing that the law and all that it calls make is longer than what came in: it says more and counts as full. Else prove '..UptoSaid'. A law counts once. -/
mutual
def uptoBulk {H : Type} : DataW H → Nat
  | .lit (.string bytes) => bytes.length + 1
  | .lit _ => 1
  | .nil => 1
  | .ptr d => uptoBulk d + 1
  | .slice elems spare => uptoBulkAll elems + uptoBulkAll spare + 1
  | .agg parts => uptoBulkAll parts + 1
  | .iface _ d => uptoBulk d + 1
  | .map entries => uptoBulkEntries entries + 1
  | .held _ => 1
def uptoBulkAll {H : Type} : List (DataW H) → Nat
  | [] => 0
  | d :: r => uptoBulk d + uptoBulkAll r
def uptoBulkEntries {H : Type} : List (Lit × DataW H) → Nat
  | [] => 0
  | x :: r => uptoBulkEntry x + uptoBulkEntries r
def uptoBulkEntry {H : Type} : Lit × DataW H → Nat
  | (.string bytes, d) => bytes.length + uptoBulk d + 1
  | (_, d) => uptoBulk d + 1
 end
def uptoSmall : (H : Type) → List (DataW H) → Bool := fun _ ds => decide (uptoBulkAll ds ≤ 1048576)
def OpenSpec.upto (s : _root_.Go.ChangeSpec) : _root_.Go.OpenSpec := { _root_.Go.OpenSpec.ofChange s with cond := some uptoSmall }

/-- 'hardtacktop.TopTable', WHERE WHAT IT READS IS OF BULK AT MOST 1048576: true; the input reads as it did. -/
def topTableUptoRow : OpenClaim := { program := "ytcphcgkbjlgkiaa", sum := "bef529df2ffbbd4eaeec5bd228623ed17c7560f4257d28f80414c7750f830964", func := "hardtack/hardtacktop.TopTable", spec := "topTable", unfollowed := true, recurses := true, plainKeys := false, apart := false, narrowed := true }
def TopTableUptoSaid : Prop := topTableUptoRow.holds Try.pinned (OpenSpec.upto topTableSpec)

/-- 'hardtacklaw11.AskTells', WHERE WHAT IT READS IS OF BULK AT MOST 1048576: true; the input reads as it did. -/
def askTellsUptoRow : OpenClaim := { program := "ytcphcgkbjlgkiaa", sum := "bef529df2ffbbd4eaeec5bd228623ed17c7560f4257d28f80414c7750f830964", func := "hardtack/hardtacklaw11.AskTells", spec := "askTells", unfollowed := true, recurses := true, plainKeys := false, apart := false, narrowed := true }
def AskTellsUptoSaid : Prop := askTellsUptoRow.holds Try.pinned (OpenSpec.upto askTellsSpec)

/-- 'hardtacklaw11.AskOwn', WHERE WHAT IT READS IS OF BULK AT MOST 1048576: true; the input reads as it did. -/
def askOwnUptoRow : OpenClaim := { program := "ytcphcgkbjlgkiaa", sum := "bef529df2ffbbd4eaeec5bd228623ed17c7560f4257d28f80414c7750f830964", func := "hardtack/hardtacklaw11.AskOwn", spec := "askOwn", unfollowed := true, recurses := true, plainKeys := false, apart := false, narrowed := true }
def AskOwnUptoSaid : Prop := askOwnUptoRow.holds Try.pinned (OpenSpec.upto askOwnSpec)

/-- 'hardtacklaw11.AskApart', WHERE WHAT IT READS IS OF BULK AT MOST 1048576: true; the input reads as it did. -/
def askApartUptoRow : OpenClaim := { program := "ytcphcgkbjlgkiaa", sum := "bef529df2ffbbd4eaeec5bd228623ed17c7560f4257d28f80414c7750f830964", func := "hardtack/hardtacklaw11.AskApart", spec := "askApart", unfollowed := true, recurses := true, plainKeys := false, apart := false, narrowed := true }
def AskApartUptoSaid : Prop := askApartUptoRow.holds Try.pinned (OpenSpec.upto askApartSpec)

/-- 'hardtacklaw12.GiveTells', WHERE WHAT IT READS IS OF BULK AT MOST 1048576: true; the input reads as it did. -/
def giveTellsUptoRow : OpenClaim := { program := "ytcphcgkbjlgkiaa", sum := "bef529df2ffbbd4eaeec5bd228623ed17c7560f4257d28f80414c7750f830964", func := "hardtack/hardtacklaw12.GiveTells", spec := "giveTells", unfollowed := true, recurses := true, plainKeys := false, apart := false, narrowed := true }
def GiveTellsUptoSaid : Prop := giveTellsUptoRow.holds Try.pinned (OpenSpec.upto giveTellsSpec)

/-- 'hardtacklaw12.GiveBack', WHERE WHAT IT READS IS OF BULK AT MOST 1048576: true; the input reads as it did. -/
def giveBackUptoRow : OpenClaim := { program := "ytcphcgkbjlgkiaa", sum := "bef529df2ffbbd4eaeec5bd228623ed17c7560f4257d28f80414c7750f830964", func := "hardtack/hardtacklaw12.GiveBack", spec := "giveBack", unfollowed := true, recurses := true, plainKeys := false, apart := false, narrowed := true }
def GiveBackUptoSaid : Prop := giveBackUptoRow.holds Try.pinned (OpenSpec.upto giveBackSpec)

/-- 'hardtacklaw12.GiveOwn', WHERE WHAT IT READS IS OF BULK AT MOST 1048576: true; the input reads as it did. -/
def giveOwnUptoRow : OpenClaim := { program := "ytcphcgkbjlgkiaa", sum := "bef529df2ffbbd4eaeec5bd228623ed17c7560f4257d28f80414c7750f830964", func := "hardtack/hardtacklaw12.GiveOwn", spec := "giveOwn", unfollowed := true, recurses := true, plainKeys := false, apart := false, narrowed := true }
def GiveOwnUptoSaid : Prop := giveOwnUptoRow.holds Try.pinned (OpenSpec.upto giveOwnSpec)

/-- 'hardtacktop.TopOptions', WHERE WHAT IT READS IS OF BULK AT MOST 1048576: true; the input reads as it did. -/
def topOptionsUptoRow : OpenClaim := { program := "ytcphcgkbjlgkiaa", sum := "bef529df2ffbbd4eaeec5bd228623ed17c7560f4257d28f80414c7750f830964", func := "hardtack/hardtacktop.TopOptions", spec := "topOptions", unfollowed := true, recurses := true, plainKeys := false, apart := false, narrowed := true }
def TopOptionsUptoSaid : Prop := topOptionsUptoRow.holds Try.pinned (OpenSpec.upto topOptionsSpec)

/-- 'hardtacktop.TopRound', WHERE WHAT IT READS IS OF BULK AT MOST 1048576: true; the input reads as it did. -/
def topRoundUptoRow : OpenClaim := { program := "ytcphcgkbjlgkiaa", sum := "bef529df2ffbbd4eaeec5bd228623ed17c7560f4257d28f80414c7750f830964", func := "hardtack/hardtacktop.TopRound", spec := "topRound", unfollowed := true, recurses := true, plainKeys := false, apart := false, narrowed := true }
def TopRoundUptoSaid : Prop := topRoundUptoRow.holds Try.pinned (OpenSpec.upto topRoundSpec)

end Rows
end Go.Proofs.Ytcphcgkbjlgkiaa
