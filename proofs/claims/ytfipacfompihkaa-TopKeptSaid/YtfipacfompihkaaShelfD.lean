/- The shelf's layings of strings.Join and strings.Compare at this seat's dump, in plain words: written by the kit's lay-plain.mjs. Conditions: none. strings.Join, laid from the shelf. Conditions: none. -/
import Derived.Test.YtfipacfompihkaaChecked
import Derived.Shelf.Strings.OnBuilder
import Derived.Shelf.Small.Strs
import Derived.Test.YtfipacfompihkaaTTab
namespace Go.Proofs
open Go.Shelf
def Try.joinLays_ren : Go.Shelf.Ren := ⟨fun | 156 => 94 | 165 => 111 | 166 => 112 | 169 => 113 | 240 => 119 | 241 => 120 | 276 => 123 | 277 => 124 | n => n, fun | 31 => 47 | 9 => 9 | 3 => 3 | 4 => 4 | 0 => 0 | 20 => 20 | 72 => 189 | 76 => 193 | 70 => 187 | 37 => 75 | 75 => 192 | 127 => 198 | 164 => 199 | 5 => 5 | 80 => 195 | n => n, fun | n => n⟩
theorem Try.joinLays : Go.Proofs.Lays.n156 Try.prog Try.joinLays_ren := {
  mixed := by kernel_rfl
  f156 := Try.func94.trans (congrArg some (by kernel_rfl))
  f165 := Try.func111.trans (congrArg some (by kernel_rfl))
  f166 := Try.func112.trans (congrArg some (by kernel_rfl))
  f169 := Try.func113.trans (congrArg some (by kernel_rfl))
  f240 := Try.func119.trans (congrArg some (by kernel_rfl))
  f241 := Try.func120.trans (congrArg some (by kernel_rfl))
  f276 := Try.func123.trans (congrArg some (by kernel_rfl))
  f277 := Try.func124.trans (congrArg some (by kernel_rfl))
  t0 := Try.underlying0
  a0 := Try.isAgg0
  z0 := Try.sizeOf0
  v0 := Try.zeroValue0
  t3 := Try.underlying3
  a3 := Try.isAgg3
  z3 := Try.sizeOf3
  v3 := Try.zeroValue3
  t4 := Try.underlying4
  a4 := Try.isAgg4
  z4 := Try.sizeOf4
  v4 := Try.zeroValue4
  t9 := Try.underlying9
  a9 := Try.isAgg9
  z9 := Try.sizeOf9
  v9 := Try.zeroValue9
  t20 := Try.underlying20
  a20 := Try.isAgg20
  z20 := Try.sizeOf20
  v20 := Try.zeroValue20
  t31 := Try.underlying47
  a31 := Try.isAgg47
  z31 := Try.sizeOf47
  v31 := Try.zeroValue47
  t37 := Try.underlying75
  a37 := Try.isAgg75
  z37 := Try.sizeOf75
  v37 := Try.zeroValue75
  t70 := Try.underlying187
  a70 := Try.isAgg187
  z70 := Try.sizeOf187
  v70 := Try.zeroValue187
  t72 := Try.underlying189
  a72 := Try.isAgg189
  z72 := Try.sizeOf189
  v72 := Try.zeroValue189
  t75 := Try.underlying192
  a75 := Try.isAgg192
  z75 := Try.sizeOf192
  v75 := Try.zeroValue192
  t76 := Try.underlying193
  a76 := Try.isAgg193
  z76 := Try.sizeOf193
  v76 := Try.zeroValue193
  t127 := Try.underlying198
  a127 := Try.isAgg198
  z127 := Try.sizeOf198
  v127 := Try.zeroValue198
  t164 := Try.underlying199
  a164 := Try.isAgg199
  z164 := Try.sizeOf199
  v164 := Try.zeroValue199 }
def Try.cmpLays_ren : Go.Shelf.Ren := ⟨fun | 106 => 89 | 213 => 109 | 265 => 116 | n => n, fun | 9 => 9 | 3 => 3 | n => n, fun | n => n⟩
theorem Try.cmpLays : Go.Proofs.Lays.n106 Try.prog Try.cmpLays_ren := {
  mixed := by kernel_rfl
  f106 := Try.func89.trans (congrArg some (by kernel_rfl))
  f213 := Try.func109.trans (congrArg some (by kernel_rfl))
  f265 := Try.func116.trans (congrArg some (by kernel_rfl))
  t3 := Try.underlying3
  a3 := Try.isAgg3
  z3 := Try.sizeOf3
  v3 := Try.zeroValue3
  t9 := Try.underlying9
  a9 := Try.isAgg9
  z9 := Try.sizeOf9
  v9 := Try.zeroValue9 }
end Go.Proofs

namespace Go.Proofs.Ytfipacfompihkaa
open Go.RowKit Go.Shelf

theorem joinExtra : Builder.Extra Try.prog Try.joinLays_ren := {
  sizeBuilder := by kernel_rfl
  liesBuilder := by kernel_rfl
  t5 := Try.underlying5
  a5 := Try.isAgg5
  z5 := Try.sizeOf5
  v5 := Try.zeroValue5
  infoByte := by kernel_rfl
  cellsByte := by kernel_rfl
  sizeByte := by kernel_rfl
  neB5 := by decide }
theorem join_many (bk o c : Nat) (xs : List ByteArray) (sep : ByteArray) (w : World) (hcells : ∀ (j : Nat) x, xs[j]? = some x → w.cell? ⟨bk, o + j, none⟩ = some (.string x)) (hbk : bk < w.heap.size) (hN : xs.length ≤ 140737488355328) (hcap : xs.length ≤ c) (hlen : (Lib.join (xs.map (·.data.toList)) sep.data.toList).length ≤ 140737488355328) :
    Calls Try.prog 94 #[.slice (some ⟨bk, o, none⟩) xs.length c, .string sep] w fun e w' => e = .returned (.string ⟨(Lib.join (xs.map (·.data.toList)) sep.data.toList).toArray⟩) ∧ Below w.heap.size w w' :=
  Any.strings_Join Try.joinLays joinExtra bk o c xs sep w hcells hbk hN hcap hlen
end Go.Proofs.Ytfipacfompihkaa
