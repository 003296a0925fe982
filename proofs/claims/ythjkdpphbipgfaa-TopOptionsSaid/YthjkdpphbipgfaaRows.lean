/-
  No cell of these rows narrows 'for every input' (looked for: loops, veiled, ifaces, maps, wideKeys, modest, calm, conditions, laid).
  DERIVED. THE GIVEN ROWS OF THIS SEAT. 5 by the template 'for every input the law returns true; each argument reads behind the call as it read before'; 0 by the template 'total and deterministic' (their statements: YthjkdpphbipgfaaTotals.lean).
  GIVEN WITH THE SEED: the statements are not yours to turn. If you find one false, say at which input.
  Laid BY PROGRAM, IN A SANDBOX (cutbox-rows.mjs): the forced cells as the released guide's own fill.sh prints them over the translation 02e9e7e7d104bf6d… (all of the seat's roots in one cut). By AI agents, Wed Nov 11 2026. No macro, syntax, notation, axiom, sorry.
-/
import Derived.Test.YthjkdpphbipgfaaChecked
import GoSem.Claim
import GoSem.ClaimJoined
import GoSem.ClaimMapViews
import Derived.JoinedTies
import Derived.KernelRfl
namespace Go.Proofs.Ythjkdpphbipgfaa
/- THE CELL 'sum', in the pinned program and in every row, IS THE sha256 OF THE DUMP (.gsa) THAT YthjkdpphbipgfaaProg.lean LOADS. Nothing in Lean hashes anything: it is a label: what it is worth is what the hold of that sum in a sandbox is worth. -/
noncomputable def Try.pinned : Pinned := { name := "ythjkdpphbipgfaa", sum := "02e9e7e7d104bf6d7aa14be484d112528c6c29b17700f1ed98945474fceb464c", checked := Try.checked }
namespace Rows
def none {H : Type} : Left H := { results := [], args := [] }

/-- 'hardtacklaw20.ScrubTells': WHATEVER THE INPUT: true; the input reads as it did. -/
def scrubTellsSpec : ChangeSpec := { name := "scrubTells", fn := fun _ => fun
  | [d1, d2, d3] => { results := [.lit (.bool true)], args := [d1, d2, d3] }
  | _ => none }
def scrubTellsRow : OpenClaim := { program := "ythjkdpphbipgfaa", sum := "02e9e7e7d104bf6d7aa14be484d112528c6c29b17700f1ed98945474fceb464c", func := "hardtack/hardtacklaw20.ScrubTells", spec := "scrubTells", unfollowed := true, recurses := true, plainKeys := false, apart := false }
def ScrubTellsSaid : Prop := scrubTellsRow.holds Try.pinned (OpenSpec.ofChange scrubTellsSpec)

/-- ITS FALSE NEIGHBOUR: 'it returns false'. Refute it at one input. -/
def scrubTellsWrong : ChangeSpec := { name := "scrubTells", fn := fun _ => fun
  | [d1, d2, d3] => { results := [.lit (.bool false)], args := [d1, d2, d3] }
  | _ => none }
def ScrubTellsWrongFalsely : Prop := scrubTellsRow.holds Try.pinned (OpenSpec.ofChange scrubTellsWrong)

/-- 'hardtacklaw20.ScrubBeyond': WHATEVER THE INPUT: true; the input reads as it did. -/
def scrubBeyondSpec : ChangeSpec := { name := "scrubBeyond", fn := fun _ => fun
  | [d1, d2, d3] => { results := [.lit (.bool true)], args := [d1, d2, d3] }
  | _ => none }
def scrubBeyondRow : OpenClaim := { program := "ythjkdpphbipgfaa", sum := "02e9e7e7d104bf6d7aa14be484d112528c6c29b17700f1ed98945474fceb464c", func := "hardtack/hardtacklaw20.ScrubBeyond", spec := "scrubBeyond", unfollowed := true, recurses := true, plainKeys := false, apart := false }
def ScrubBeyondSaid : Prop := scrubBeyondRow.holds Try.pinned (OpenSpec.ofChange scrubBeyondSpec)

/-- ITS FALSE NEIGHBOUR: 'it returns false'. Refute it at one input. -/
def scrubBeyondWrong : ChangeSpec := { name := "scrubBeyond", fn := fun _ => fun
  | [d1, d2, d3] => { results := [.lit (.bool false)], args := [d1, d2, d3] }
  | _ => none }
def ScrubBeyondWrongFalsely : Prop := scrubBeyondRow.holds Try.pinned (OpenSpec.ofChange scrubBeyondWrong)

/-- 'hardtacklaw07.EdnsBack': WHATEVER THE INPUT: true; the input reads as it did. -/
def ednsBackSpec : ChangeSpec := { name := "ednsBack", fn := fun _ => fun
  | [d1, d2, d3, d4] => { results := [.lit (.bool true)], args := [d1, d2, d3, d4] }
  | _ => none }
def ednsBackRow : OpenClaim := { program := "ythjkdpphbipgfaa", sum := "02e9e7e7d104bf6d7aa14be484d112528c6c29b17700f1ed98945474fceb464c", func := "hardtack/hardtacklaw07.EdnsBack", spec := "ednsBack", unfollowed := true, recurses := true, plainKeys := false, apart := false }
def EdnsBackSaid : Prop := ednsBackRow.holds Try.pinned (OpenSpec.ofChange ednsBackSpec)

/-- ITS FALSE NEIGHBOUR: 'it returns false'. Refute it at one input. -/
def ednsBackWrong : ChangeSpec := { name := "ednsBack", fn := fun _ => fun
  | [d1, d2, d3, d4] => { results := [.lit (.bool false)], args := [d1, d2, d3, d4] }
  | _ => none }
def EdnsBackWrongFalsely : Prop := ednsBackRow.holds Try.pinned (OpenSpec.ofChange ednsBackWrong)

/-- 'hardtacktop.TopTrusted': WHATEVER THE INPUT: true; the input reads as it did. -/
def topTrustedSpec : ChangeSpec := { name := "topTrusted", fn := fun _ => fun
  | [d1, d2, d3, d4, d5] => { results := [.lit (.bool true)], args := [d1, d2, d3, d4, d5] }
  | _ => none }
def topTrustedRow : OpenClaim := { program := "ythjkdpphbipgfaa", sum := "02e9e7e7d104bf6d7aa14be484d112528c6c29b17700f1ed98945474fceb464c", func := "hardtack/hardtacktop.TopTrusted", spec := "topTrusted", unfollowed := true, recurses := true, plainKeys := false, apart := false }
def TopTrustedSaid : Prop := topTrustedRow.holds Try.pinned (OpenSpec.ofChange topTrustedSpec)

/-- ITS FALSE NEIGHBOUR: 'it returns false'. Refute it at one input. -/
def topTrustedWrong : ChangeSpec := { name := "topTrusted", fn := fun _ => fun
  | [d1, d2, d3, d4, d5] => { results := [.lit (.bool false)], args := [d1, d2, d3, d4, d5] }
  | _ => none }
def TopTrustedWrongFalsely : Prop := topTrustedRow.holds Try.pinned (OpenSpec.ofChange topTrustedWrong)

/-- 'hardtacktop.TopOptions': WHATEVER THE INPUT: true; the input reads as it did. -/
def topOptionsSpec : ChangeSpec := { name := "topOptions", fn := fun _ => fun
  | [d1, d2, d3, d4] => { results := [.lit (.bool true)], args := [d1, d2, d3, d4] }
  | _ => none }
def topOptionsRow : OpenClaim := { program := "ythjkdpphbipgfaa", sum := "02e9e7e7d104bf6d7aa14be484d112528c6c29b17700f1ed98945474fceb464c", func := "hardtack/hardtacktop.TopOptions", spec := "topOptions", unfollowed := true, recurses := true, plainKeys := false, apart := false }
def TopOptionsSaid : Prop := topOptionsRow.holds Try.pinned (OpenSpec.ofChange topOptionsSpec)

/-- ITS FALSE NEIGHBOUR: 'it returns false'. Refute it at one input. -/
def topOptionsWrong : ChangeSpec := { name := "topOptions", fn := fun _ => fun
  | [d1, d2, d3, d4] => { results := [.lit (.bool false)], args := [d1, d2, d3, d4] }
  | _ => none }
def TopOptionsWrongFalsely : Prop := topOptionsRow.holds Try.pinned (OpenSpec.ofChange topOptionsWrong)

/- THE SECOND FORM. 'bulk': how many values and letters a reading holds, each counted each time it is reached (what is shared counts as often as it is met; a slice's spare places count too). A statement '..UptoSaid' is the law's where the arguments, and the package variables that the reading takes, are together of bulk at most 1048576: NARROWER than '..Said'. Prove '..Said' where nothing that the law and all that it calls make is longer than what came in: it says more and counts as full. Else prove '..UptoSaid'. A law counts once. -/
mutual
def uptoBulk {H : Type} : DataW H → Nat
  | .lit (.string bytes) => bytes.length + 1
  | .lit _ => 1
  | .nil => 1
  | .ptr d => uptoBulk d + 1
  | .slice elems spare => uptoBulkAll elems + uptoBulkAll spare + 1
  | .agg parts => uptoBulkAll parts + 1
  | .iface _ d => uptoBulk d + 1
  | .map entries => uptoBulkEntries entries + 1
  | .held _ => 1
def uptoBulkAll {H : Type} : List (DataW H) → Nat
  | [] => 0
  | d :: r => uptoBulk d + uptoBulkAll r
def uptoBulkEntries {H : Type} : List (Lit × DataW H) → Nat
  | [] => 0
  | x :: r => uptoBulkEntry x + uptoBulkEntries r
def uptoBulkEntry {H : Type} : Lit × DataW H → Nat
  | (.string bytes, d) => bytes.length + uptoBulk d + 1
  | (_, d) => uptoBulk d + 1
 end
def uptoSmall : (H : Type) → List (DataW H) → Bool := fun _ ds => decide (uptoBulkAll ds ≤ 1048576)
def OpenSpec.upto (s : _root_.Go.ChangeSpec) : _root_.Go.OpenSpec := { _root_.Go.OpenSpec.ofChange s with cond := some uptoSmall }

/-- 'hardtacklaw20.ScrubTells', WHERE WHAT IT READS IS OF BULK AT MOST 1048576: true; the input reads as it did. -/
def scrubTellsUptoRow : OpenClaim := { program := "ythjkdpphbipgfaa", sum := "02e9e7e7d104bf6d7aa14be484d112528c6c29b17700f1ed98945474fceb464c", func := "hardtack/hardtacklaw20.ScrubTells", spec := "scrubTells", unfollowed := true, recurses := true, plainKeys := false, apart := false, narrowed := true }
def ScrubTellsUptoSaid : Prop := scrubTellsUptoRow.holds Try.pinned (OpenSpec.upto scrubTellsSpec)

/-- 'hardtacklaw20.ScrubBeyond', WHERE WHAT IT READS IS OF BULK AT MOST 1048576: true; the input reads as it did. -/
def scrubBeyondUptoRow : OpenClaim := { program := "ythjkdpphbipgfaa", sum := "02e9e7e7d104bf6d7aa14be484d112528c6c29b17700f1ed98945474fceb464c", func := "hardtack/hardtacklaw20.ScrubBeyond", spec := "scrubBeyond", unfollowed := true, recurses := true, plainKeys := false, apart := false, narrowed := true }
def ScrubBeyondUptoSaid : Prop := scrubBeyondUptoRow.holds Try.pinned (OpenSpec.upto scrubBeyondSpec)

/-- 'hardtacklaw07.EdnsBack', WHERE WHAT IT READS IS OF BULK AT MOST 1048576: true; the input reads as it did. -/
def ednsBackUptoRow : OpenClaim := { program := "ythjkdpphbipgfaa", sum := "02e9e7e7d104bf6d7aa14be484d112528c6c29b17700f1ed98945474fceb464c", func := "hardtack/hardtacklaw07.EdnsBack", spec := "ednsBack", unfollowed := true, recurses := true, plainKeys := false, apart := false, narrowed := true }
def EdnsBackUptoSaid : Prop := ednsBackUptoRow.holds Try.pinned (OpenSpec.upto ednsBackSpec)

/-- 'hardtacktop.TopTrusted', WHERE WHAT IT READS IS OF BULK AT MOST 1048576: true; the input reads as it did. -/
def topTrustedUptoRow : OpenClaim := { program := "ythjkdpphbipgfaa", sum := "02e9e7e7d104bf6d7aa14be484d112528c6c29b17700f1ed98945474fceb464c", func := "hardtack/hardtacktop.TopTrusted", spec := "topTrusted", unfollowed := true, recurses := true, plainKeys := false, apart := false, narrowed := true }
def TopTrustedUptoSaid : Prop := topTrustedUptoRow.holds Try.pinned (OpenSpec.upto topTrustedSpec)

/-- 'hardtacktop.TopOptions', WHERE WHAT IT READS IS OF BULK AT MOST 1048576: true; the input reads as it did. -/
def topOptionsUptoRow : OpenClaim := { program := "ythjkdpphbipgfaa", sum := "02e9e7e7d104bf6d7aa14be484d112528c6c29b17700f1ed98945474fceb464c", func := "hardtack/hardtacktop.TopOptions", spec := "topOptions", unfollowed := true, recurses := true, plainKeys := false, apart := false, narrowed := true }
def TopOptionsUptoSaid : Prop := topOptionsUptoRow.holds Try.pinned (OpenSpec.upto topOptionsSpec)

end Rows
end Go.Proofs.Ythjkdpphbipgfaa
