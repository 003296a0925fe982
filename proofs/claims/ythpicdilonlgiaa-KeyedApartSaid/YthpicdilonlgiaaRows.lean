/-
  No cell of these rows narrows 'for every input' (looked for: loops, veiled, ifaces, maps, wideKeys, modest, calm, conditions, laid).
  DERIVED. THE GIVEN ROWS OF THIS SEAT. 19 by the template 'for every input the law returns true; each argument reads behind the call as it read before'; 0 by the template 'total and deterministic' (their statements: YthpicdilonlgiaaTotals.lean).
  GIVEN WITH THE SEED: the statements are not yours to turn. If you find one false, say at which input.
  Laid BY PROGRAM, IN A SANDBOX (cutbox-rows.mjs): the forced cells as the released guide's own fill.sh prints them over the translation 860345b86c1c426e… (all of the seat's roots in one cut). By AI agents, Wed Nov 11 2026. No macro, syntax, notation, axiom, sorry.
-/
import Derived.Test.YthpicdilonlgiaaChecked
import GoSem.Claim
import GoSem.ClaimJoined
import GoSem.ClaimMapViews
import Derived.JoinedTies
import Derived.KernelRfl
namespace Go.Proofs.Ythpicdilonlgiaa
/- THE CELL 'sum', in the pinned program and in every row, IS THE sha256 OF THE DUMP (.gsa) THAT YthpicdilonlgiaaProg.lean LOADS. Nothing in Lean hashes anything: it is a label: what it is worth is what the hold of that sum in a sandbox is worth. -/
noncomputable def Try.pinned : Pinned := { name := "ythpicdilonlgiaa", sum := "860345b86c1c426e2d3d5ac0c8c85a49910706322ffda821fd5bf09c23c84418", checked := Try.checked }
namespace Rows
def none {H : Type} : Left H := { results := [], args := [] }

/-- 'hardtacklaw10.StampTells': WHATEVER THE INPUT: true; the input reads as it did. -/
def stampTellsSpec : ChangeSpec := { name := "stampTells", fn := fun _ => fun
  | [d1, d2, d3, d4] => { results := [.lit (.bool true)], args := [d1, d2, d3, d4] }
  | _ => none }
def stampTellsRow : OpenClaim := { program := "ythpicdilonlgiaa", sum := "860345b86c1c426e2d3d5ac0c8c85a49910706322ffda821fd5bf09c23c84418", func := "hardtack/hardtacklaw10.StampTells", spec := "stampTells", plainKeys := false, apart := false }
def StampTellsSaid : Prop := stampTellsRow.holds Try.pinned (OpenSpec.ofChange stampTellsSpec)

/-- ITS FALSE NEIGHBOUR: 'it returns false'. Refute it at one input. -/
def stampTellsWrong : ChangeSpec := { name := "stampTells", fn := fun _ => fun
  | [d1, d2, d3, d4] => { results := [.lit (.bool false)], args := [d1, d2, d3, d4] }
  | _ => none }
def StampTellsWrongFalsely : Prop := stampTellsRow.holds Try.pinned (OpenSpec.ofChange stampTellsWrong)

/-- 'hardtacklaw10.StampRound': WHATEVER THE INPUT: true; the input reads as it did. -/
def stampRoundSpec : ChangeSpec := { name := "stampRound", fn := fun _ => fun
  | [d1, d2] => { results := [.lit (.bool true)], args := [d1, d2] }
  | _ => none }
def stampRoundRow : OpenClaim := { program := "ythpicdilonlgiaa", sum := "860345b86c1c426e2d3d5ac0c8c85a49910706322ffda821fd5bf09c23c84418", func := "hardtack/hardtacklaw10.StampRound", spec := "stampRound", plainKeys := false, apart := false }
def StampRoundSaid : Prop := stampRoundRow.holds Try.pinned (OpenSpec.ofChange stampRoundSpec)

/-- ITS FALSE NEIGHBOUR: 'it returns false'. Refute it at one input. -/
def stampRoundWrong : ChangeSpec := { name := "stampRound", fn := fun _ => fun
  | [d1, d2] => { results := [.lit (.bool false)], args := [d1, d2] }
  | _ => none }
def StampRoundWrongFalsely : Prop := stampRoundRow.holds Try.pinned (OpenSpec.ofChange stampRoundWrong)

/-- 'hardtacklaw10.StampLess': WHATEVER THE INPUT: true; the input reads as it did. -/
def stampLessSpec : ChangeSpec := { name := "stampLess", fn := fun _ => fun
  | [d1, d2, d3] => { results := [.lit (.bool true)], args := [d1, d2, d3] }
  | _ => none }
def stampLessRow : OpenClaim := { program := "ythpicdilonlgiaa", sum := "860345b86c1c426e2d3d5ac0c8c85a49910706322ffda821fd5bf09c23c84418", func := "hardtack/hardtacklaw10.StampLess", spec := "stampLess", plainKeys := false, apart := false }
def StampLessSaid : Prop := stampLessRow.holds Try.pinned (OpenSpec.ofChange stampLessSpec)

/-- ITS FALSE NEIGHBOUR: 'it returns false'. Refute it at one input. -/
def stampLessWrong : ChangeSpec := { name := "stampLess", fn := fun _ => fun
  | [d1, d2, d3] => { results := [.lit (.bool false)], args := [d1, d2, d3] }
  | _ => none }
def StampLessWrongFalsely : Prop := stampLessRow.holds Try.pinned (OpenSpec.ofChange stampLessWrong)

/-- 'hardtacklaw08.SipRounds': WHATEVER THE INPUT: true; the input reads as it did. -/
def sipRoundsSpec : ChangeSpec := { name := "sipRounds", fn := fun _ => fun
  | [d1, d2, d3] => { results := [.lit (.bool true)], args := [d1, d2, d3] }
  | _ => none }
def sipRoundsRow : OpenClaim := { program := "ythpicdilonlgiaa", sum := "860345b86c1c426e2d3d5ac0c8c85a49910706322ffda821fd5bf09c23c84418", func := "hardtack/hardtacklaw08.SipRounds", spec := "sipRounds", unfollowed := true, recurses := true, plainKeys := false, apart := false }
def SipRoundsSaid : Prop := sipRoundsRow.holds Try.pinned (OpenSpec.ofChange sipRoundsSpec)

/-- ITS FALSE NEIGHBOUR: 'it returns false'. Refute it at one input. -/
def sipRoundsWrong : ChangeSpec := { name := "sipRounds", fn := fun _ => fun
  | [d1, d2, d3] => { results := [.lit (.bool false)], args := [d1, d2, d3] }
  | _ => none }
def SipRoundsWrongFalsely : Prop := sipRoundsRow.holds Try.pinned (OpenSpec.ofChange sipRoundsWrong)

/-- 'hardtacklaw08.SipSums': WHATEVER THE INPUT: true; the input reads as it did. -/
def sipSumsSpec : ChangeSpec := { name := "sipSums", fn := fun _ => fun
  | [d1, d2] => { results := [.lit (.bool true)], args := [d1, d2] }
  | _ => none }
def sipSumsRow : OpenClaim := { program := "ythpicdilonlgiaa", sum := "860345b86c1c426e2d3d5ac0c8c85a49910706322ffda821fd5bf09c23c84418", func := "hardtack/hardtacklaw08.SipSums", spec := "sipSums", unfollowed := true, recurses := true, plainKeys := false, apart := false }
def SipSumsSaid : Prop := sipSumsRow.holds Try.pinned (OpenSpec.ofChange sipSumsSpec)

/-- ITS FALSE NEIGHBOUR: 'it returns false'. Refute it at one input. -/
def sipSumsWrong : ChangeSpec := { name := "sipSums", fn := fun _ => fun
  | [d1, d2] => { results := [.lit (.bool false)], args := [d1, d2] }
  | _ => none }
def SipSumsWrongFalsely : Prop := sipSumsRow.holds Try.pinned (OpenSpec.ofChange sipSumsWrong)

/-- 'hardtacklaw08.SipNoTwo': WHATEVER THE INPUT: true; the input reads as it did. -/
def sipNoTwoSpec : ChangeSpec := { name := "sipNoTwo", fn := fun _ => fun
  | [d1, d2, d3, d4] => { results := [.lit (.bool true)], args := [d1, d2, d3, d4] }
  | _ => none }
def sipNoTwoRow : OpenClaim := { program := "ythpicdilonlgiaa", sum := "860345b86c1c426e2d3d5ac0c8c85a49910706322ffda821fd5bf09c23c84418", func := "hardtack/hardtacklaw08.SipNoTwo", spec := "sipNoTwo", unfollowed := true, recurses := true, plainKeys := false, apart := false }
def SipNoTwoSaid : Prop := sipNoTwoRow.holds Try.pinned (OpenSpec.ofChange sipNoTwoSpec)

/-- ITS FALSE NEIGHBOUR: 'it returns false'. Refute it at one input. -/
def sipNoTwoWrong : ChangeSpec := { name := "sipNoTwo", fn := fun _ => fun
  | [d1, d2, d3, d4] => { results := [.lit (.bool false)], args := [d1, d2, d3, d4] }
  | _ => none }
def SipNoTwoWrongFalsely : Prop := sipNoTwoRow.holds Try.pinned (OpenSpec.ofChange sipNoTwoWrong)

/-- 'hardtacklaw08.SipWords': WHATEVER THE INPUT: true; the input reads as it did. -/
def sipWordsSpec : ChangeSpec := { name := "sipWords", fn := fun _ => fun
  | [d1, d2, d3] => { results := [.lit (.bool true)], args := [d1, d2, d3] }
  | _ => none }
def sipWordsRow : OpenClaim := { program := "ythpicdilonlgiaa", sum := "860345b86c1c426e2d3d5ac0c8c85a49910706322ffda821fd5bf09c23c84418", func := "hardtack/hardtacklaw08.SipWords", spec := "sipWords", unfollowed := true, recurses := true, plainKeys := false, apart := false }
def SipWordsSaid : Prop := sipWordsRow.holds Try.pinned (OpenSpec.ofChange sipWordsSpec)

/-- ITS FALSE NEIGHBOUR: 'it returns false'. Refute it at one input. -/
def sipWordsWrong : ChangeSpec := { name := "sipWords", fn := fun _ => fun
  | [d1, d2, d3] => { results := [.lit (.bool false)], args := [d1, d2, d3] }
  | _ => none }
def SipWordsWrongFalsely : Prop := sipWordsRow.holds Try.pinned (OpenSpec.ofChange sipWordsWrong)

/-- 'hardtacklaw09.KeyedTells': WHATEVER THE INPUT: true; the input reads as it did. -/
def keyedTellsSpec : ChangeSpec := { name := "keyedTells", fn := fun _ => fun
  | [d1, d2, d3, d4] => { results := [.lit (.bool true)], args := [d1, d2, d3, d4] }
  | _ => none }
def keyedTellsRow : OpenClaim := { program := "ythpicdilonlgiaa", sum := "860345b86c1c426e2d3d5ac0c8c85a49910706322ffda821fd5bf09c23c84418", func := "hardtack/hardtacklaw09.KeyedTells", spec := "keyedTells", unfollowed := true, recurses := true, plainKeys := false, apart := false }
def KeyedTellsSaid : Prop := keyedTellsRow.holds Try.pinned (OpenSpec.ofChange keyedTellsSpec)

/-- ITS FALSE NEIGHBOUR: 'it returns false'. Refute it at one input. -/
def keyedTellsWrong : ChangeSpec := { name := "keyedTells", fn := fun _ => fun
  | [d1, d2, d3, d4] => { results := [.lit (.bool false)], args := [d1, d2, d3, d4] }
  | _ => none }
def KeyedTellsWrongFalsely : Prop := keyedTellsRow.holds Try.pinned (OpenSpec.ofChange keyedTellsWrong)

/-- 'hardtacklaw09.KeyedPut': WHATEVER THE INPUT: true; the input reads as it did. -/
def keyedPutSpec : ChangeSpec := { name := "keyedPut", fn := fun _ => fun
  | [d1, d2, d3, d4, d5, d6] => { results := [.lit (.bool true)], args := [d1, d2, d3, d4, d5, d6] }
  | _ => none }
def keyedPutRow : OpenClaim := { program := "ythpicdilonlgiaa", sum := "860345b86c1c426e2d3d5ac0c8c85a49910706322ffda821fd5bf09c23c84418", func := "hardtack/hardtacklaw09.KeyedPut", spec := "keyedPut", unfollowed := true, recurses := true, plainKeys := false, apart := false }
def KeyedPutSaid : Prop := keyedPutRow.holds Try.pinned (OpenSpec.ofChange keyedPutSpec)

/-- ITS FALSE NEIGHBOUR: 'it returns false'. Refute it at one input. -/
def keyedPutWrong : ChangeSpec := { name := "keyedPut", fn := fun _ => fun
  | [d1, d2, d3, d4, d5, d6] => { results := [.lit (.bool false)], args := [d1, d2, d3, d4, d5, d6] }
  | _ => none }
def KeyedPutWrongFalsely : Prop := keyedPutRow.holds Try.pinned (OpenSpec.ofChange keyedPutWrong)

/-- 'hardtacklaw09.KeyedApart': WHATEVER THE INPUT: true; the input reads as it did. -/
def keyedApartSpec : ChangeSpec := { name := "keyedApart", fn := fun _ => fun
  | [d1, d2, d3, d4, d5] => { results := [.lit (.bool true)], args := [d1, d2, d3, d4, d5] }
  | _ => none }
def keyedApartRow : OpenClaim := { program := "ythpicdilonlgiaa", sum := "860345b86c1c426e2d3d5ac0c8c85a49910706322ffda821fd5bf09c23c84418", func := "hardtack/hardtacklaw09.KeyedApart", spec := "keyedApart", unfollowed := true, recurses := true, plainKeys := false, apart := false }
def KeyedApartSaid : Prop := keyedApartRow.holds Try.pinned (OpenSpec.ofChange keyedApartSpec)

/-- ITS FALSE NEIGHBOUR: 'it returns false'. Refute it at one input. -/
def keyedApartWrong : ChangeSpec := { name := "keyedApart", fn := fun _ => fun
  | [d1, d2, d3, d4, d5] => { results := [.lit (.bool false)], args := [d1, d2, d3, d4, d5] }
  | _ => none }
def KeyedApartWrongFalsely : Prop := keyedApartRow.holds Try.pinned (OpenSpec.ofChange keyedApartWrong)

/-- 'hardtacktop.TopTable': WHATEVER THE INPUT: true; the input reads as it did. -/
def topTableSpec : ChangeSpec := { name := "topTable", fn := fun _ => fun
  | [d1, d2, d3] => { results := [.lit (.bool true)], args := [d1, d2, d3] }
  | _ => none }
def topTableRow : OpenClaim := { program := "ythpicdilonlgiaa", sum := "860345b86c1c426e2d3d5ac0c8c85a49910706322ffda821fd5bf09c23c84418", func := "hardtack/hardtacktop.TopTable", spec := "topTable", unfollowed := true, recurses := true, plainKeys := false, apart := false }
def TopTableSaid : Prop := topTableRow.holds Try.pinned (OpenSpec.ofChange topTableSpec)

/-- ITS FALSE NEIGHBOUR: 'it returns false'. Refute it at one input. -/
def topTableWrong : ChangeSpec := { name := "topTable", fn := fun _ => fun
  | [d1, d2, d3] => { results := [.lit (.bool false)], args := [d1, d2, d3] }
  | _ => none }
def TopTableWrongFalsely : Prop := topTableRow.holds Try.pinned (OpenSpec.ofChange topTableWrong)

/-- 'hardtacklaw11.AskTells': WHATEVER THE INPUT: true; the input reads as it did. -/
def askTellsSpec : ChangeSpec := { name := "askTells", fn := fun _ => fun
  | [d1, d2, d3, d4, d5, d6] => { results := [.lit (.bool true)], args := [d1, d2, d3, d4, d5, d6] }
  | _ => none }
def askTellsRow : OpenClaim := { program := "ythpicdilonlgiaa", sum := "860345b86c1c426e2d3d5ac0c8c85a49910706322ffda821fd5bf09c23c84418", func := "hardtack/hardtacklaw11.AskTells", spec := "askTells", unfollowed := true, recurses := true, plainKeys := false, apart := false }
def AskTellsSaid : Prop := askTellsRow.holds Try.pinned (OpenSpec.ofChange askTellsSpec)

/-- ITS FALSE NEIGHBOUR: 'it returns false'. Refute it at one input. -/
def askTellsWrong : ChangeSpec := { name := "askTells", fn := fun _ => fun
  | [d1, d2, d3, d4, d5, d6] => { results := [.lit (.bool false)], args := [d1, d2, d3, d4, d5, d6] }
  | _ => none }
def AskTellsWrongFalsely : Prop := askTellsRow.holds Try.pinned (OpenSpec.ofChange askTellsWrong)

/-- 'hardtacklaw11.AskOwn': WHATEVER THE INPUT: true; the input reads as it did. -/
def askOwnSpec : ChangeSpec := { name := "askOwn", fn := fun _ => fun
  | [d1, d2, d3, d4, d5] => { results := [.lit (.bool true)], args := [d1, d2, d3, d4, d5] }
  | _ => none }
def askOwnRow : OpenClaim := { program := "ythpicdilonlgiaa", sum := "860345b86c1c426e2d3d5ac0c8c85a49910706322ffda821fd5bf09c23c84418", func := "hardtack/hardtacklaw11.AskOwn", spec := "askOwn", unfollowed := true, recurses := true, plainKeys := false, apart := false }
def AskOwnSaid : Prop := askOwnRow.holds Try.pinned (OpenSpec.ofChange askOwnSpec)

/-- ITS FALSE NEIGHBOUR: 'it returns false'. Refute it at one input. -/
def askOwnWrong : ChangeSpec := { name := "askOwn", fn := fun _ => fun
  | [d1, d2, d3, d4, d5] => { results := [.lit (.bool false)], args := [d1, d2, d3, d4, d5] }
  | _ => none }
def AskOwnWrongFalsely : Prop := askOwnRow.holds Try.pinned (OpenSpec.ofChange askOwnWrong)

/-- 'hardtacklaw11.AskApart': WHATEVER THE INPUT: true; the input reads as it did. -/
def askApartSpec : ChangeSpec := { name := "askApart", fn := fun _ => fun
  | [d1, d2, d3, d4] => { results := [.lit (.bool true)], args := [d1, d2, d3, d4] }
  | _ => none }
def askApartRow : OpenClaim := { program := "ythpicdilonlgiaa", sum := "860345b86c1c426e2d3d5ac0c8c85a49910706322ffda821fd5bf09c23c84418", func := "hardtack/hardtacklaw11.AskApart", spec := "askApart", unfollowed := true, recurses := true, plainKeys := false, apart := false }
def AskApartSaid : Prop := askApartRow.holds Try.pinned (OpenSpec.ofChange askApartSpec)

/-- ITS FALSE NEIGHBOUR: 'it returns false'. Refute it at one input. -/
def askApartWrong : ChangeSpec := { name := "askApart", fn := fun _ => fun
  | [d1, d2, d3, d4] => { results := [.lit (.bool false)], args := [d1, d2, d3, d4] }
  | _ => none }
def AskApartWrongFalsely : Prop := askApartRow.holds Try.pinned (OpenSpec.ofChange askApartWrong)

/-- 'hardtacklaw12.GiveTells': WHATEVER THE INPUT: true; the input reads as it did. -/
def giveTellsSpec : ChangeSpec := { name := "giveTells", fn := fun _ => fun
  | [d1, d2, d3, d4, d5, d6] => { results := [.lit (.bool true)], args := [d1, d2, d3, d4, d5, d6] }
  | _ => none }
def giveTellsRow : OpenClaim := { program := "ythpicdilonlgiaa", sum := "860345b86c1c426e2d3d5ac0c8c85a49910706322ffda821fd5bf09c23c84418", func := "hardtack/hardtacklaw12.GiveTells", spec := "giveTells", unfollowed := true, recurses := true, plainKeys := false, apart := false }
def GiveTellsSaid : Prop := giveTellsRow.holds Try.pinned (OpenSpec.ofChange giveTellsSpec)

/-- ITS FALSE NEIGHBOUR: 'it returns false'. Refute it at one input. -/
def giveTellsWrong : ChangeSpec := { name := "giveTells", fn := fun _ => fun
  | [d1, d2, d3, d4, d5, d6] => { results := [.lit (.bool false)], args := [d1, d2, d3, d4, d5, d6] }
  | _ => none }
def GiveTellsWrongFalsely : Prop := giveTellsRow.holds Try.pinned (OpenSpec.ofChange giveTellsWrong)

/-- 'hardtacklaw12.GiveBack': WHATEVER THE INPUT: true; the input reads as it did. -/
def giveBackSpec : ChangeSpec := { name := "giveBack", fn := fun _ => fun
  | [d1, d2, d3, d4, d5, d6, d7] => { results := [.lit (.bool true)], args := [d1, d2, d3, d4, d5, d6, d7] }
  | _ => none }
def giveBackRow : OpenClaim := { program := "ythpicdilonlgiaa", sum := "860345b86c1c426e2d3d5ac0c8c85a49910706322ffda821fd5bf09c23c84418", func := "hardtack/hardtacklaw12.GiveBack", spec := "giveBack", unfollowed := true, recurses := true, plainKeys := false, apart := false }
def GiveBackSaid : Prop := giveBackRow.holds Try.pinned (OpenSpec.ofChange giveBackSpec)

/-- ITS FALSE NEIGHBOUR: 'it returns false'. Refute it at one input. -/
def giveBackWrong : ChangeSpec := { name := "giveBack", fn := fun _ => fun
  | [d1, d2, d3, d4, d5, d6, d7] => { results := [.lit (.bool false)], args := [d1, d2, d3, d4, d5, d6, d7] }
  | _ => none }
def GiveBackWrongFalsely : Prop := giveBackRow.holds Try.pinned (OpenSpec.ofChange giveBackWrong)

/-- 'hardtacklaw12.GiveOwn': WHATEVER THE INPUT: true; the input reads as it did. -/
def giveOwnSpec : ChangeSpec := { name := "giveOwn", fn := fun _ => fun
  | [d1, d2, d3, d4, d5, d6] => { results := [.lit (.bool true)], args := [d1, d2, d3, d4, d5, d6] }
  | _ => none }
def giveOwnRow : OpenClaim := { program := "ythpicdilonlgiaa", sum := "860345b86c1c426e2d3d5ac0c8c85a49910706322ffda821fd5bf09c23c84418", func := "hardtack/hardtacklaw12.GiveOwn", spec := "giveOwn", unfollowed := true, recurses := true, plainKeys := false, apart := false }
def GiveOwnSaid : Prop := giveOwnRow.holds Try.pinned (OpenSpec.ofChange giveOwnSpec)

/-- ITS FALSE NEIGHBOUR: 'it returns false'. Refute it at one input. -/
def giveOwnWrong : ChangeSpec := { name := "giveOwn", fn := fun _ => fun
  | [d1, d2, d3, d4, d5, d6] => { results := [.lit (.bool false)], args := [d1, d2, d3, d4, d5, d6] }
  | _ => none }
def GiveOwnWrongFalsely : Prop := giveOwnRow.holds Try.pinned (OpenSpec.ofChange giveOwnWrong)

/-- 'hardtacktop.TopOptions': WHATEVER THE INPUT: true; the input reads as it did. -/
def topOptionsSpec : ChangeSpec := { name := "topOptions", fn := fun _ => fun
  | [d1, d2, d3, d4] => { results := [.lit (.bool true)], args := [d1, d2, d3, d4] }
  | _ => none }
def topOptionsRow : OpenClaim := { program := "ythpicdilonlgiaa", sum := "860345b86c1c426e2d3d5ac0c8c85a49910706322ffda821fd5bf09c23c84418", func := "hardtack/hardtacktop.TopOptions", spec := "topOptions", unfollowed := true, recurses := true, plainKeys := false, apart := false }
def TopOptionsSaid : Prop := topOptionsRow.holds Try.pinned (OpenSpec.ofChange topOptionsSpec)

/-- ITS FALSE NEIGHBOUR: 'it returns false'. Refute it at one input. -/
def topOptionsWrong : ChangeSpec := { name := "topOptions", fn := fun _ => fun
  | [d1, d2, d3, d4] => { results := [.lit (.bool false)], args := [d1, d2, d3, d4] }
  | _ => none }
def TopOptionsWrongFalsely : Prop := topOptionsRow.holds Try.pinned (OpenSpec.ofChange topOptionsWrong)

/-- 'hardtacktop.TopRound': WHATEVER THE INPUT: true; the input reads as it did. -/
def topRoundSpec : ChangeSpec := { name := "topRound", fn := fun _ => fun
  | [d1, d2, d3, d4, d5, d6, d7, d8] => { results := [.lit (.bool true)], args := [d1, d2, d3, d4, d5, d6, d7, d8] }
  | _ => none }
def topRoundRow : OpenClaim := { program := "ythpicdilonlgiaa", sum := "860345b86c1c426e2d3d5ac0c8c85a49910706322ffda821fd5bf09c23c84418", func := "hardtack/hardtacktop.TopRound", spec := "topRound", unfollowed := true, recurses := true, plainKeys := false, apart := false }
def TopRoundSaid : Prop := topRoundRow.holds Try.pinned (OpenSpec.ofChange topRoundSpec)

/-- ITS FALSE NEIGHBOUR: 'it returns false'. Refute it at one input. -/
def topRoundWrong : ChangeSpec := { name := "topRound", fn := fun _ => fun
  | [d1, d2, d3, d4, d5, d6, d7, d8] => { results := [.lit (.bool false)], args := [d1, d2, d3, d4, d5, d6, d7, d8] }
  | _ => none }
def TopRoundWrongFalsely : Prop := topRoundRow.holds Try.pinned (OpenSpec.ofChange topRoundWrong)

/- THE SECOND FORM. 'bulk': how many values and letters a reading holds, each counted each time it is reached (what is shared counts as often as it is met; a slice's spare places count too). A statement '..UptoSaid' is the law's where the arguments, and the package variables that the reading takes, are together of bulk at most 1048576: NARROWER than '..Said'. Prove '..Said' where nothing that the law and all that it calls make is longer than what came in: it says more and counts as full. Else prove '..UptoSaid'. A law counts once. -/
mutual
def uptoBulk {H : Type} : DataW H → Nat
  | .lit (.string bytes) => bytes.length + 1
  | .lit _ => 1
  | .nil => 1
  | .ptr d => uptoBulk d + 1
  | .slice elems spare => uptoBulkAll elems + uptoBulkAll spare + 1
  | .agg parts => uptoBulkAll parts + 1
  | .iface _ d => uptoBulk d + 1
  | .map entries => uptoBulkEntries entries + 1
  | .held _ => 1
def uptoBulkAll {H : Type} : List (DataW H) → Nat
  | [] => 0
  | d :: r => uptoBulk d + uptoBulkAll r
def uptoBulkEntries {H : Type} : List (Lit × DataW H) → Nat
  | [] => 0
  | x :: r => uptoBulkEntry x + uptoBulkEntries r
def uptoBulkEntry {H : Type} : Lit × DataW H → Nat
  | (.string bytes, d) => bytes.length + uptoBulk d + 1
  | (_, d) => uptoBulk d + 1
 end
def uptoSmall : (H : Type) → List (DataW H) → Bool := fun _ ds => decide (uptoBulkAll ds ≤ 1048576)
def OpenSpec.upto (s : _root_.Go.ChangeSpec) : _root_.Go.OpenSpec := { _root_.Go.OpenSpec.ofChange s with cond := some uptoSmall }

/-- 'hardtacklaw10.StampTells', WHERE WHAT IT READS IS OF BULK AT MOST 1048576: true; the input reads as it did. -/
def stampTellsUptoRow : OpenClaim := { program := "ythpicdilonlgiaa", sum := "860345b86c1c426e2d3d5ac0c8c85a49910706322ffda821fd5bf09c23c84418", func := "hardtack/hardtacklaw10.StampTells", spec := "stampTells", plainKeys := false, apart := false, narrowed := true }
def StampTellsUptoSaid : Prop := stampTellsUptoRow.holds Try.pinned (OpenSpec.upto stampTellsSpec)

/-- 'hardtacklaw10.StampRound', WHERE WHAT IT READS IS OF BULK AT MOST 1048576: true; the input reads as it did. -/
def stampRoundUptoRow : OpenClaim := { program := "ythpicdilonlgiaa", sum := "860345b86c1c426e2d3d5ac0c8c85a49910706322ffda821fd5bf09c23c84418", func := "hardtack/hardtacklaw10.StampRound", spec := "stampRound", plainKeys := false, apart := false, narrowed := true }
def StampRoundUptoSaid : Prop := stampRoundUptoRow.holds Try.pinned (OpenSpec.upto stampRoundSpec)

/-- 'hardtacklaw10.StampLess', WHERE WHAT IT READS IS OF BULK AT MOST 1048576: true; the input reads as it did. -/
def stampLessUptoRow : OpenClaim := { program := "ythpicdilonlgiaa", sum := "860345b86c1c426e2d3d5ac0c8c85a49910706322ffda821fd5bf09c23c84418", func := "hardtack/hardtacklaw10.StampLess", spec := "stampLess", plainKeys := false, apart := false, narrowed := true }
def StampLessUptoSaid : Prop := stampLessUptoRow.holds Try.pinned (OpenSpec.upto stampLessSpec)

/-- 'hardtacklaw08.SipRounds', WHERE WHAT IT READS IS OF BULK AT MOST 1048576: true; the input reads as it did. -/
def sipRoundsUptoRow : OpenClaim := { program := "ythpicdilonlgiaa", sum := "860345b86c1c426e2d3d5ac0c8c85a49910706322ffda821fd5bf09c23c84418", func := "hardtack/hardtacklaw08.SipRounds", spec := "sipRounds", unfollowed := true, recurses := true, plainKeys := false, apart := false, narrowed := true }
def SipRoundsUptoSaid : Prop := sipRoundsUptoRow.holds Try.pinned (OpenSpec.upto sipRoundsSpec)

/-- 'hardtacklaw08.SipSums', WHERE WHAT IT READS IS OF BULK AT MOST 1048576: true; the input reads as it did. -/
def sipSumsUptoRow : OpenClaim := { program := "ythpicdilonlgiaa", sum := "860345b86c1c426e2d3d5ac0c8c85a49910706322ffda821fd5bf09c23c84418", func := "hardtack/hardtacklaw08.SipSums", spec := "sipSums", unfollowed := true, recurses := true, plainKeys := false, apart := false, narrowed := true }
def SipSumsUptoSaid : Prop := sipSumsUptoRow.holds Try.pinned (OpenSpec.upto sipSumsSpec)

/-- 'hardtacklaw08.SipNoTwo', WHERE WHAT IT READS IS OF BULK AT MOST 1048576: true; the input reads as it did. -/
def sipNoTwoUptoRow : OpenClaim := { program := "ythpicdilonlgiaa", sum := "860345b86c1c426e2d3d5ac0c8c85a49910706322ffda821fd5bf09c23c84418", func := "hardtack/hardtacklaw08.SipNoTwo", spec := "sipNoTwo", unfollowed := true, recurses := true, plainKeys := false, apart := false, narrowed := true }
def SipNoTwoUptoSaid : Prop := sipNoTwoUptoRow.holds Try.pinned (OpenSpec.upto sipNoTwoSpec)

/-- 'hardtacklaw08.SipWords', WHERE WHAT IT READS IS OF BULK AT MOST 1048576: true; the input reads as it did. -/
def sipWordsUptoRow : OpenClaim := { program := "ythpicdilonlgiaa", sum := "860345b86c1c426e2d3d5ac0c8c85a49910706322ffda821fd5bf09c23c84418", func := "hardtack/hardtacklaw08.SipWords", spec := "sipWords", unfollowed := true, recurses := true, plainKeys := false, apart := false, narrowed := true }
def SipWordsUptoSaid : Prop := sipWordsUptoRow.holds Try.pinned (OpenSpec.upto sipWordsSpec)

/-- 'hardtacklaw09.KeyedTells', WHERE WHAT IT READS IS OF BULK AT MOST 1048576: true; the input reads as it did. -/
def keyedTellsUptoRow : OpenClaim := { program := "ythpicdilonlgiaa", sum := "860345b86c1c426e2d3d5ac0c8c85a49910706322ffda821fd5bf09c23c84418", func := "hardtack/hardtacklaw09.KeyedTells", spec := "keyedTells", unfollowed := true, recurses := true, plainKeys := false, apart := false, narrowed := true }
def KeyedTellsUptoSaid : Prop := keyedTellsUptoRow.holds Try.pinned (OpenSpec.upto keyedTellsSpec)

/-- 'hardtacklaw09.KeyedPut', WHERE WHAT IT READS IS OF BULK AT MOST 1048576: true; the input reads as it did. -/
def keyedPutUptoRow : OpenClaim := { program := "ythpicdilonlgiaa", sum := "860345b86c1c426e2d3d5ac0c8c85a49910706322ffda821fd5bf09c23c84418", func := "hardtack/hardtacklaw09.KeyedPut", spec := "keyedPut", unfollowed := true, recurses := true, plainKeys := false, apart := false, narrowed := true }
def KeyedPutUptoSaid : Prop := keyedPutUptoRow.holds Try.pinned (OpenSpec.upto keyedPutSpec)

/-- 'hardtacklaw09.KeyedApart', WHERE WHAT IT READS IS OF BULK AT MOST 1048576: true; the input reads as it did. -/
def keyedApartUptoRow : OpenClaim := { program := "ythpicdilonlgiaa", sum := "860345b86c1c426e2d3d5ac0c8c85a49910706322ffda821fd5bf09c23c84418", func := "hardtack/hardtacklaw09.KeyedApart", spec := "keyedApart", unfollowed := true, recurses := true, plainKeys := false, apart := false, narrowed := true }
def KeyedApartUptoSaid : Prop := keyedApartUptoRow.holds Try.pinned (OpenSpec.upto keyedApartSpec)

/-- 'hardtacktop.TopTable', WHERE WHAT IT READS IS OF BULK AT MOST 1048576: true; the input reads as it did. -/
def topTableUptoRow : OpenClaim := { program := "ythpicdilonlgiaa", sum := "860345b86c1c426e2d3d5ac0c8c85a49910706322ffda821fd5bf09c23c84418", func := "hardtack/hardtacktop.TopTable", spec := "topTable", unfollowed := true, recurses := true, plainKeys := false, apart := false, narrowed := true }
def TopTableUptoSaid : Prop := topTableUptoRow.holds Try.pinned (OpenSpec.upto topTableSpec)

/-- 'hardtacklaw11.AskTells', WHERE WHAT IT READS IS OF BULK AT MOST 1048576: true; the input reads as it did. -/
def askTellsUptoRow : OpenClaim := { program := "ythpicdilonlgiaa", sum := "860345b86c1c426e2d3d5ac0c8c85a49910706322ffda821fd5bf09c23c84418", func := "hardtack/hardtacklaw11.AskTells", spec := "askTells", unfollowed := true, recurses := true, plainKeys := false, apart := false, narrowed := true }
def AskTellsUptoSaid : Prop := askTellsUptoRow.holds Try.pinned (OpenSpec.upto askTellsSpec)

/-- 'hardtacklaw11.AskOwn', WHERE WHAT IT READS IS OF BULK AT MOST 1048576: true; the input reads as it did. -/
def askOwnUptoRow : OpenClaim := { program := "ythpicdilonlgiaa", sum := "860345b86c1c426e2d3d5ac0c8c85a49910706322ffda821fd5bf09c23c84418", func := "hardtack/hardtacklaw11.AskOwn", spec := "askOwn", unfollowed := true, recurses := true, plainKeys := false, apart := false, narrowed := true }
def AskOwnUptoSaid : Prop := askOwnUptoRow.holds Try.pinned (OpenSpec.upto askOwnSpec)

/-- 'hardtacklaw11.AskApart', WHERE WHAT IT READS IS OF BULK AT MOST 1048576: true; the input reads as it did. -/
def askApartUptoRow : OpenClaim := { program := "ythpicdilonlgiaa", sum := "860345b86c1c426e2d3d5ac0c8c85a49910706322ffda821fd5bf09c23c84418", func := "hardtack/hardtacklaw11.AskApart", spec := "askApart", unfollowed := true, recurses := true, plainKeys := false, apart := false, narrowed := true }
def AskApartUptoSaid : Prop := askApartUptoRow.holds Try.pinned (OpenSpec.upto askApartSpec)

/-- 'hardtacklaw12.GiveTells', WHERE WHAT IT READS IS OF BULK AT MOST 1048576: true; the input reads as it did. -/
def giveTellsUptoRow : OpenClaim := { program := "ythpicdilonlgiaa", sum := "860345b86c1c426e2d3d5ac0c8c85a49910706322ffda821fd5bf09c23c84418", func := "hardtack/hardtacklaw12.GiveTells", spec := "giveTells", unfollowed := true, recurses := true, plainKeys := false, apart := false, narrowed := true }
def GiveTellsUptoSaid : Prop := giveTellsUptoRow.holds Try.pinned (OpenSpec.upto giveTellsSpec)

/-- 'hardtacklaw12.GiveBack', WHERE WHAT IT READS IS OF BULK AT MOST 1048576: true; the input reads as it did. -/
def giveBackUptoRow : OpenClaim := { program := "ythpicdilonlgiaa", sum := "860345b86c1c426e2d3d5ac0c8c85a49910706322ffda821fd5bf09c23c84418", func := "hardtack/hardtacklaw12.GiveBack", spec := "giveBack", unfollowed := true, recurses := true, plainKeys := false, apart := false, narrowed := true }
def GiveBackUptoSaid : Prop := giveBackUptoRow.holds Try.pinned (OpenSpec.upto giveBackSpec)

/-- 'hardtacklaw12.GiveOwn', WHERE WHAT IT READS IS OF BULK AT MOST 1048576: true; the input reads as it did. -/
def giveOwnUptoRow : OpenClaim := { program := "ythpicdilonlgiaa", sum := "860345b86c1c426e2d3d5ac0c8c85a49910706322ffda821fd5bf09c23c84418", func := "hardtack/hardtacklaw12.GiveOwn", spec := "giveOwn", unfollowed := true, recurses := true, plainKeys := false, apart := false, narrowed := true }
def GiveOwnUptoSaid : Prop := giveOwnUptoRow.holds Try.pinned (OpenSpec.upto giveOwnSpec)

/-- 'hardtacktop.TopOptions', WHERE WHAT IT READS IS OF BULK AT MOST 1048576: true; the input reads as it did. -/
def topOptionsUptoRow : OpenClaim := { program := "ythpicdilonlgiaa", sum := "860345b86c1c426e2d3d5ac0c8c85a49910706322ffda821fd5bf09c23c84418", func := "hardtack/hardtacktop.TopOptions", spec := "topOptions", unfollowed := true, recurses := true, plainKeys := false, apart := false, narrowed := true }
def TopOptionsUptoSaid : Prop := topOptionsUptoRow.holds Try.pinned (OpenSpec.upto topOptionsSpec)

/-- 'hardtacktop.TopRound', WHERE WHAT IT READS IS OF BULK AT MOST 1048576: true; the input reads as it did. -/
def topRoundUptoRow : OpenClaim := { program := "ythpicdilonlgiaa", sum := "860345b86c1c426e2d3d5ac0c8c85a49910706322ffda821fd5bf09c23c84418", func := "hardtack/hardtacktop.TopRound", spec := "topRound", unfollowed := true, recurses := true, plainKeys := false, apart := false, narrowed := true }
def TopRoundUptoSaid : Prop := topRoundUptoRow.holds Try.pinned (OpenSpec.upto topRoundSpec)

end Rows
end Go.Proofs.Ythpicdilonlgiaa
