/-
  No cell of these rows narrows 'for every input' (looked for: loops, veiled, ifaces, maps, wideKeys, modest, calm, conditions, laid).
  DERIVED. THE GIVEN ROWS OF THIS SEAT. 4 by the template 'for every input the law returns true; each argument reads behind the call as it read before'; 0 by the template 'total and deterministic' (their statements: YtfipacfompihkaaTotals.lean).
  GIVEN WITH THE SEED: the statements are not yours to turn. If you find one false, say at which input.
  Laid BY PROGRAM, IN A SANDBOX (cutbox-rows.mjs): the forced cells as the released guide's own fill.sh prints them over the translation 212c37c7141a8683… (all of the seat's roots in one cut). By AI agents, Wed Nov 11 2026. No macro, syntax, notation, axiom, sorry.
-/
import Derived.Test.YtfipacfompihkaaChecked
import GoSem.Claim
import GoSem.ClaimJoined
import GoSem.ClaimMapViews
import Derived.JoinedTies
import Derived.KernelRfl
namespace Go.Proofs.Ytfipacfompihkaa
/- THE CELL 'sum', in the pinned program and in every row, IS THE sha256 OF THE DUMP (.gsa) THAT YtfipacfompihkaaProg.lean LOADS. Nothing in Lean hashes anything: it is a label: what it is worth is what the hold of that sum in a sandbox is worth. -/
noncomputable def Try.pinned : Pinned := { name := "ytfipacfompihkaa", sum := "212c37c7141a86831c3c01300c75ecffbbd96650c27e74f9b22a8a8750dc3070", checked := Try.checked }
namespace Rows
def none {H : Type} : Left H := { results := [], args := [] }

/-- 'hardtacktop.TopSpared': WHATEVER THE INPUT: true; the input reads as it did. -/
def topSparedSpec : ChangeSpec := { name := "topSpared", fn := fun _ => fun
  | [d1, d2, d3, d4, d5] => { results := [.lit (.bool true)], args := [d1, d2, d3, d4, d5] }
  | _ => none }
def topSparedRow : OpenClaim := { program := "ytfipacfompihkaa", sum := "212c37c7141a86831c3c01300c75ecffbbd96650c27e74f9b22a8a8750dc3070", func := "hardtack/hardtacktop.TopSpared", spec := "topSpared", unfollowed := true, recurses := true, plainKeys := false, apart := false }
def TopSparedSaid : Prop := topSparedRow.holds Try.pinned (OpenSpec.ofChange topSparedSpec)

/-- ITS FALSE NEIGHBOUR: 'it returns false'. Refute it at one input. -/
def topSparedWrong : ChangeSpec := { name := "topSpared", fn := fun _ => fun
  | [d1, d2, d3, d4, d5] => { results := [.lit (.bool false)], args := [d1, d2, d3, d4, d5] }
  | _ => none }
def TopSparedWrongFalsely : Prop := topSparedRow.holds Try.pinned (OpenSpec.ofChange topSparedWrong)

/-- 'hardtacktop.TopNone': WHATEVER THE INPUT: true; the input reads as it did. -/
def topNoneSpec : ChangeSpec := { name := "topNone", fn := fun _ => fun
  | [d1, d2, d3, d4] => { results := [.lit (.bool true)], args := [d1, d2, d3, d4] }
  | _ => none }
def topNoneRow : OpenClaim := { program := "ytfipacfompihkaa", sum := "212c37c7141a86831c3c01300c75ecffbbd96650c27e74f9b22a8a8750dc3070", func := "hardtack/hardtacktop.TopNone", spec := "topNone", inPlace := ["internal/abi.NoEscape", "internal/bytealg.MakeNoZero"], unfollowed := true, recurses := true, plainKeys := false, apart := false }
def TopNoneSaid : Prop := topNoneRow.holds Try.pinned (OpenSpec.ofChange topNoneSpec)

/-- ITS FALSE NEIGHBOUR: 'it returns false'. Refute it at one input. -/
def topNoneWrong : ChangeSpec := { name := "topNone", fn := fun _ => fun
  | [d1, d2, d3, d4] => { results := [.lit (.bool false)], args := [d1, d2, d3, d4] }
  | _ => none }
def TopNoneWrongFalsely : Prop := topNoneRow.holds Try.pinned (OpenSpec.ofChange topNoneWrong)

/-- 'hardtacktop.TopKept': WHATEVER THE INPUT: true; the input reads as it did. -/
def topKeptSpec : ChangeSpec := { name := "topKept", fn := fun _ => fun
  | [d1, d2, d3] => { results := [.lit (.bool true)], args := [d1, d2, d3] }
  | _ => none }
def topKeptRow : OpenClaim := { program := "ytfipacfompihkaa", sum := "212c37c7141a86831c3c01300c75ecffbbd96650c27e74f9b22a8a8750dc3070", func := "hardtack/hardtacktop.TopKept", spec := "topKept", inPlace := ["internal/abi.NoEscape", "internal/bytealg.MakeNoZero", "internal/bytealg.abigen_runtime_cmpstring"], unfollowed := true, recurses := true, plainKeys := false, apart := false }
def TopKeptSaid : Prop := topKeptRow.holds Try.pinned (OpenSpec.ofChange topKeptSpec)

/-- ITS FALSE NEIGHBOUR: 'it returns false'. Refute it at one input. -/
def topKeptWrong : ChangeSpec := { name := "topKept", fn := fun _ => fun
  | [d1, d2, d3] => { results := [.lit (.bool false)], args := [d1, d2, d3] }
  | _ => none }
def TopKeptWrongFalsely : Prop := topKeptRow.holds Try.pinned (OpenSpec.ofChange topKeptWrong)

/-- 'hardtacktop.TopGlue': WHATEVER THE INPUT: true; the input reads as it did. -/
def topGlueSpec : ChangeSpec := { name := "topGlue", fn := fun _ => fun
  | [d1, d2, d3, d4, d5] => { results := [.lit (.bool true)], args := [d1, d2, d3, d4, d5] }
  | _ => none }
def topGlueRow : OpenClaim := { program := "ytfipacfompihkaa", sum := "212c37c7141a86831c3c01300c75ecffbbd96650c27e74f9b22a8a8750dc3070", func := "hardtack/hardtacktop.TopGlue", spec := "topGlue", inPlace := ["internal/abi.NoEscape", "internal/bytealg.MakeNoZero", "internal/bytealg.abigen_runtime_cmpstring"], unfollowed := true, recurses := true, plainKeys := false, apart := false }
def TopGlueSaid : Prop := topGlueRow.holds Try.pinned (OpenSpec.ofChange topGlueSpec)

/-- ITS FALSE NEIGHBOUR: 'it returns false'. Refute it at one input. -/
def topGlueWrong : ChangeSpec := { name := "topGlue", fn := fun _ => fun
  | [d1, d2, d3, d4, d5] => { results := [.lit (.bool false)], args := [d1, d2, d3, d4, d5] }
  | _ => none }
def TopGlueWrongFalsely : Prop := topGlueRow.holds Try.pinned (OpenSpec.ofChange topGlueWrong)

/- THE SECOND FORM. 'bulk': how many values and letters a reading holds, each counted each time it is reached (what is shared counts as often as it is met; a slice's spare places count too). A statement '..UptoSaid' is the law's where the arguments, and the package variables that the reading takes, are together of bulk at most 1048576: NARROWER than '..Said'. Prove '..Said' where nothing that the law and all that it calls make is longer than what came in: it says more and counts as full. Else prove '..UptoSaid'. A law counts once. -/
mutual
def uptoBulk {H : Type} : DataW H → Nat
  | .lit (.string bytes) => bytes.length + 1
  | .lit _ => 1
  | .nil => 1
  | .ptr d => uptoBulk d + 1
  | .slice elems spare => uptoBulkAll elems + uptoBulkAll spare + 1
  | .agg parts => uptoBulkAll parts + 1
  | .iface _ d => uptoBulk d + 1
  | .map entries => uptoBulkEntries entries + 1
  | .held _ => 1
def uptoBulkAll {H : Type} : List (DataW H) → Nat
  | [] => 0
  | d :: r => uptoBulk d + uptoBulkAll r
def uptoBulkEntries {H : Type} : List (Lit × DataW H) → Nat
  | [] => 0
  | x :: r => uptoBulkEntry x + uptoBulkEntries r
def uptoBulkEntry {H : Type} : Lit × DataW H → Nat
  | (.string bytes, d) => bytes.length + uptoBulk d + 1
  | (_, d) => uptoBulk d + 1
 end
def uptoSmall : (H : Type) → List (DataW H) → Bool := fun _ ds => decide (uptoBulkAll ds ≤ 1048576)
def OpenSpec.upto (s : _root_.Go.ChangeSpec) : _root_.Go.OpenSpec := { _root_.Go.OpenSpec.ofChange s with cond := some uptoSmall }

/-- 'hardtacktop.TopSpared', WHERE WHAT IT READS IS OF BULK AT MOST 1048576: true; the input reads as it did. -/
def topSparedUptoRow : OpenClaim := { program := "ytfipacfompihkaa", sum := "212c37c7141a86831c3c01300c75ecffbbd96650c27e74f9b22a8a8750dc3070", func := "hardtack/hardtacktop.TopSpared", spec := "topSpared", unfollowed := true, recurses := true, plainKeys := false, apart := false, narrowed := true }
def TopSparedUptoSaid : Prop := topSparedUptoRow.holds Try.pinned (OpenSpec.upto topSparedSpec)

/-- 'hardtacktop.TopNone', WHERE WHAT IT READS IS OF BULK AT MOST 1048576: true; the input reads as it did. -/
def topNoneUptoRow : OpenClaim := { program := "ytfipacfompihkaa", sum := "212c37c7141a86831c3c01300c75ecffbbd96650c27e74f9b22a8a8750dc3070", func := "hardtack/hardtacktop.TopNone", spec := "topNone", inPlace := ["internal/abi.NoEscape", "internal/bytealg.MakeNoZero"], unfollowed := true, recurses := true, plainKeys := false, apart := false, narrowed := true }
def TopNoneUptoSaid : Prop := topNoneUptoRow.holds Try.pinned (OpenSpec.upto topNoneSpec)

/-- 'hardtacktop.TopKept', WHERE WHAT IT READS IS OF BULK AT MOST 1048576: true; the input reads as it did. -/
def topKeptUptoRow : OpenClaim := { program := "ytfipacfompihkaa", sum := "212c37c7141a86831c3c01300c75ecffbbd96650c27e74f9b22a8a8750dc3070", func := "hardtack/hardtacktop.TopKept", spec := "topKept", inPlace := ["internal/abi.NoEscape", "internal/bytealg.MakeNoZero", "internal/bytealg.abigen_runtime_cmpstring"], unfollowed := true, recurses := true, plainKeys := false, apart := false, narrowed := true }
def TopKeptUptoSaid : Prop := topKeptUptoRow.holds Try.pinned (OpenSpec.upto topKeptSpec)

/-- 'hardtacktop.TopGlue', WHERE WHAT IT READS IS OF BULK AT MOST 1048576: true; the input reads as it did. -/
def topGlueUptoRow : OpenClaim := { program := "ytfipacfompihkaa", sum := "212c37c7141a86831c3c01300c75ecffbbd96650c27e74f9b22a8a8750dc3070", func := "hardtack/hardtacktop.TopGlue", spec := "topGlue", inPlace := ["internal/abi.NoEscape", "internal/bytealg.MakeNoZero", "internal/bytealg.abigen_runtime_cmpstring"], unfollowed := true, recurses := true, plainKeys := false, apart := false, narrowed := true }
def TopGlueUptoSaid : Prop := topGlueUptoRow.holds Try.pinned (OpenSpec.upto topGlueSpec)

end Rows
end Go.Proofs.Ytfipacfompihkaa
