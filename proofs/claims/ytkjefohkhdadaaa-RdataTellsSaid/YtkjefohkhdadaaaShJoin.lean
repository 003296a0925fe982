/- strings.Join, laid from the shelf. Conditions: none. -/
import Derived.Test.YtkjefohkhdadaaaTTab
import Derived.Test.YtkjefohkhdadaaaShelfD
import Derived.Shelf.Strings.OnBuilder
namespace Go.Proofs.Ytkjefohkhdadaaa
open Go.RowKit Go.Shelf

theorem joinExtra : Builder.Extra Try.prog Try.joinLays_ren := {
  sizeBuilder := by kernel_rfl
  liesBuilder := by kernel_rfl
  t5 := Try.underlying5
  a5 := Try.isAgg5
  z5 := Try.sizeOf5
  v5 := Try.zeroValue5
  infoByte := by kernel_rfl
  cellsByte := by kernel_rfl
  sizeByte := by kernel_rfl
  neB5 := by decide }
theorem join_many (bk o c : Nat) (xs : List ByteArray) (sep : ByteArray) (w : World) (hcells : ∀ (j : Nat) x, xs[j]? = some x → w.cell? ⟨bk, o + j, none⟩ = some (.string x)) (hbk : bk < w.heap.size) (hN : xs.length ≤ 140737488355328) (hcap : xs.length ≤ c) (hlen : (Lib.join (xs.map (·.data.toList)) sep.data.toList).length ≤ 140737488355328) :
    Calls Try.prog 111 #[.slice (some ⟨bk, o, none⟩) xs.length c, .string sep] w fun e w' => e = .returned (.string ⟨(Lib.join (xs.map (·.data.toList)) sep.data.toList).toArray⟩) ∧ Below w.heap.size w w' :=
  Any.strings_Join Try.joinLays joinExtra bk o c xs sep w hcells hbk hN hcap hlen
end Go.Proofs.Ytkjefohkhdadaaa
