/-
  DERIVED. GIVEN WITH THE SEED: THE CARDS: each row of YtenmhfhnhfhooaaDoorRows.lean that lists a variable, with what it lists TIED to the program's text (the seventh form; the later family's looks); each row that meets fmt, with fmt's text TOLD by the authors' own Lean function (tested against real Go, not proved from fmt's source: count such statements apart). THE CARD IS WHAT COUNTS. Prove the row's statement (the work); the ties are given (YtenmhfhnhfhooaaDoorTie.lean); close each card by the builder's one call (the guide's Derived/Test/ToyasCard.lean, 'card_holds'). Laid BY PROGRAM, IN A SANDBOX (cutbox-door.mjs). By AI agents, Wed Nov 11 2026. No macro, syntax, notation, axiom, sorry.
-/
import Derived.Test.YtenmhfhnhfhooaaDoorRows
import GoSem.ClaimSeven
namespace Go.Proofs.YtenmhfhnhfhooaaDoor
namespace Rows

/-- THE TIED CARD OF 'hardtacktop.TopReverse'. -/
def topReverseCard : Claim7 := { stood := { row := topReverseRow, standIns := [], harness := (true, "2d718d482b53a4c8d93158b02fdb6335a8685d1280300b4a874b3310cac36b41"), looks := true }, kinds := [], alts := [], laidByText := true, laidKinds := [.data, .data, .data, .data, .sentinel, .sentinel, .pinned], laidTests := true, laidLooks := .later }
def TopReverseCardSaid : Prop := Claim7.holds Tryd.pinned (.plain (OpenSpec.ofChange topReverseSpec)) topReverseCard

/-- THE SECOND FORM's CARD OF 'hardtacktop.TopReverse'. -/
def topReverseUptoCard : Claim7 := { stood := { row := topReverseUptoRow, standIns := [], harness := (true, "2d718d482b53a4c8d93158b02fdb6335a8685d1280300b4a874b3310cac36b41"), looks := true }, kinds := [], alts := [], laidByText := true, laidKinds := [.data, .data, .data, .data, .sentinel, .sentinel, .pinned], laidTests := true, laidLooks := .later }
def TopReverseUptoCardSaid : Prop := Claim7.holds Tryd.pinned (.plain (OpenSpec.upto topReverseSpec)) topReverseUptoCard
end Rows
end Go.Proofs.YtenmhfhnhfhooaaDoor
