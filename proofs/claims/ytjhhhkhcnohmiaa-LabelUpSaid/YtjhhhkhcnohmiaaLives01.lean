/- The walk of hardtacklaw01.lives. -/
import Derived.Test.YtjhhhkhcnohmiaaPrint
import Derived.Test.YtjhhhkhcnohmiaaWithin
namespace Go.Proofs.Ytjhhhkhcnohmiaa
open Go.RowKit Go.Lib

def nW : ByteArray := ⟨#[3, 119, 119, 119, 4, 69, 120, 46, 97, 3, 111, 114, 103, 0]⟩
def tW : ByteArray := ⟨#[119, 119, 119, 46, 69, 120, 92, 46, 97, 46, 111, 114, 103]⟩
def tW2 : ByteArray := ⟨#[119, 119, 119, 46, 69, 120, 92, 46, 97, 46, 111, 114, 103, 46]⟩
def pW : ByteArray := ⟨#[4, 69, 120, 46, 97, 3, 111, 114, 103, 0]⟩
theorem c01a (w : World) : Calls Try.prog 48 #[.string ⟨#[119, 119, 119, 46, 69, 120, 92, 46, 97, 46, 111, 114, 103]⟩] w fun e w' => e = .returned (.tuple #[.string nW, .int .i64 0]) ∧ Below w.heap.size w w' := by
  have := Parse_any tW (by decide) w
  rw [show parseP tW.data.toList = (nW.data.toList, 0) from by decide +kernel] at this
  exact this
theorem c01b (w : World) : Calls Try.prog 49 #[.string nW] w fun e w' => e = .returned (.tuple #[.string tW2, .int .i64 0]) ∧ Below w.heap.size w w' := by
  have := Print_any nW (by decide) w
  rw [show printP nW.data.toList = (tW2.data.toList, 0) from by decide +kernel] at this
  exact this
theorem c01c (w : World) : Calls Try.prog 25 #[.string nW] w fun e w' => e = .returned (.tuple #[.string pW, .int .i64 0]) ∧ Below w.heap.size w w' := by
  have := Parent_name nW (by decide) (by decide +kernel) (by decide) w
  rw [show parL nW.data.toList = pW.data.toList from by decide +kernel] at this
  exact this
theorem c01d (w : World) : Calls Try.prog 25 #[.string ⟨#[0]⟩] w fun e w' => e = .returned (.tuple #[.string ⟨#[]⟩, .int .i64 3]) ∧ Below w.heap.size w w' :=
  Parent_root ⟨#[0]⟩ (by decide) rfl w
theorem c01e (w : World) : Calls Try.prog 48 #[.string ⟨#[97, 46, 46, 98]⟩] w fun e w' => e = .returned (.tuple #[.string ⟨#[]⟩, .int .i64 6]) ∧ Below w.heap.size w w' := by
  have := Parse_any ⟨#[97, 46, 46, 98]⟩ (by decide) w
  rw [show parseP (⟨#[97, 46, 46, 98]⟩ : ByteArray).data.toList = ([], 6) from by decide +kernel] at this
  exact this
theorem c01f {w : World} {g : Nat} (hB : Blk w g 9 #[.string ⟨#[97]⟩]) : Calls Try.prog 61 #[.string ⟨#[1, 98, 0]⟩, .slice (some ⟨g, 0, none⟩) 1 1] w fun e w' => e = .returned (.tuple #[.string ⟨#[1, 97, 1, 98, 0]⟩, .int .i64 0]) ∧ Below w.heap.size w w' := by
  have := Join_any ⟨#[1, 98, 0]⟩ (by decide) (some ⟨g, 0, none⟩) 1 [[97]] w (fun _ => ⟨g, 0, rfl, hB.lt, fun j u hu => by rw [Nat.zero_add, hB.cell j]; simpa [strs] using hu⟩) (by decide)
  rw [show joinP (⟨#[1, 98, 0]⟩ : ByteArray).data.toList [[97]] = ([1, 97, 1, 98, 0], 0) from by decide +kernel] at this
  exact this
theorem c01g (w : World) : Calls Try.prog 27 #[.string nW, .string ⟨#[3, 79, 82, 71, 0]⟩] w fun e w' => e = .returned (.bool true) ∧ Below w.heap.size w w' := by
  have := Within_any nW ⟨#[3, 79, 82, 71, 0]⟩ (by decide) (by decide) w
  rw [show withinB nW.data.toList (⟨#[3, 79, 82, 71, 0]⟩ : ByteArray).data.toList = true from by decide +kernel] at this
  exact this
theorem c01h (w : World) : Calls Try.prog 27 #[.string ⟨#[0]⟩, .string nW] w fun e w' => e = .returned (.bool false) ∧ Below w.heap.size w w' := by
  have := Within_any ⟨#[0]⟩ nW (by decide) (by decide) w
  rw [show withinB (⟨#[0]⟩ : ByteArray).data.toList nW.data.toList = false from by decide +kernel] at this
  exact this
theorem c01i (w : World) : Calls Try.prog 46 #[.string ⟨#[1, 65, 0]⟩, .string ⟨#[1, 97, 0]⟩] w fun e w' => e = .returned (.bool true) ∧ Below w.heap.size w w' := by
  have := Same_any ⟨#[1, 65, 0]⟩ ⟨#[1, 97, 0]⟩ (by decide) (by decide) w
  rw [show sameB (⟨#[1, 65, 0]⟩ : ByteArray).data.toList (⟨#[1, 97, 0]⟩ : ByteArray).data.toList = true from by decide +kernel] at this
  exact this
theorem c01j (w : World) : Calls Try.prog 24 #[.string nW] w fun e w' => e = .returned (.int .i64 3) ∧ Below w.heap.size w w' := by
  have := Count_any nW (by decide) w
  rw [show (namL nW.data.toList).length = 3 from by decide +kernel] at this
  exact this
theorem c01k (w : World) : Calls Try.prog 56 #[.string ⟨#[65, 91]⟩] w fun e w' => e = .returned (.string ⟨#[97, 91]⟩) ∧ Below w.heap.size w w' := by
  have := Fold_any ⟨#[65, 91]⟩ (by decide) w
  rw [show foldB (⟨#[65, 91]⟩ : ByteArray).data.toList = [97, 91] from by decide +kernel] at this
  exact this
theorem c01l (w : World) : Calls Try.prog 22 #[.string ⟨#[]⟩] w fun e w' => e = .returned (.int .i64 2) ∧ Below w.heap.size w w' := by
  have := Check_any ⟨#[]⟩ (by decide) w
  rw [show chkN (⟨#[]⟩ : ByteArray).data.toList = 2 from by decide +kernel] at this
  exact this

set_option maxHeartbeats 8000000 in
set_option maxRecDepth 100000 in
theorem lives01 (w : World) : Calls Try.prog 31 #[] w fun e w' => e = .returned (.bool true) ∧ Below w.heap.size w w' := by
  have hn1 : nW.toList = [3, 119, 119, 119, 4, 69, 120, 46, 97, 3, 111, 114, 103, 0] := by rw [ByteArray.toList_eq]; rfl
  have hn2 : tW2.toList = [119, 119, 119, 46, 69, 120, 92, 46, 97, 46, 111, 114, 103, 46] := by rw [ByteArray.toList_eq]; rfl
  have hn3 : pW.toList = [4, 69, 120, 46, 97, 3, 111, 114, 103, 0] := by rw [ByteArray.toList_eq]; rfl
  go_enter Try.func31, Try.ntmps31
  go_wp2_with (fail)
  refine (c01a _).mono ?_
  rintro e w1 ⟨rfl, hb⟩
  have L1 := Lib.hid hb
  clear hb
  go_wp2_with (fail)
  refine (c01b _).mono ?_
  rintro e w2 ⟨rfl, hb⟩
  have L2 := Lib.hid (L1.out.trans (hb.mono L1.out.size))
  clear hb
  go_wp2_with (fail)
  refine (c01c _).mono ?_
  rintro e w3 ⟨rfl, hb⟩
  have L3 := Lib.hid (L2.out.trans (hb.mono L2.out.size))
  clear hb
  go_wp2_with (fail)
  refine (c01d _).mono ?_
  rintro e w4 ⟨rfl, hb⟩
  have L4 := Lib.hid (L3.out.trans (hb.mono L3.out.size))
  clear hb
  go_wp2_with (fail)
  refine (c01e _).mono ?_
  rintro e w5 ⟨rfl, hb⟩
  have L5 := Lib.hid (L4.out.trans (hb.mono L4.out.size))
  clear hb
  go_wp2_with (fail)
  refine (c01f (Blk.new w5 _ _)).mono ?_
  rintro e w6 ⟨rfl, hb⟩
  have L6 := Lib.hid ((L5.out.alloc L5.out.size (.cells #[.string ⟨#[97]⟩] 9)).trans (hb.mono (by have := L5.out.size; simp; omega)))
  clear hb
  go_wp2_with (fail)
  refine (c01g _).mono ?_
  rintro e w7 ⟨rfl, hb⟩
  have L7 := Lib.hid (L6.out.trans (hb.mono L6.out.size))
  clear hb
  go_wp2_with (fail)
  refine (c01h _).mono ?_
  rintro e w8 ⟨rfl, hb⟩
  have L8 := Lib.hid (L7.out.trans (hb.mono L7.out.size))
  clear hb
  go_wp2_with (fail)
  refine (c01i _).mono ?_
  rintro e w9 ⟨rfl, hb⟩
  have L9 := Lib.hid (L8.out.trans (hb.mono L8.out.size))
  clear hb
  go_wp2_with (fail)
  refine (c01j _).mono ?_
  rintro e w10 ⟨rfl, hb⟩
  have L10 := Lib.hid (L9.out.trans (hb.mono L9.out.size))
  clear hb
  go_wp2_with (fail)
  refine (c01k _).mono ?_
  rintro e w11 ⟨rfl, hb⟩
  have L11 := Lib.hid (L10.out.trans (hb.mono L10.out.size))
  clear hb
  go_wp2_with (fail)
  refine (c01l _).mono ?_
  rintro e w12 ⟨rfl, hb⟩
  have L12 := Lib.hid (L11.out.trans (hb.mono L11.out.size))
  clear hb
  go_wp2_with (fail)
  go_ret
  exact ⟨rfl, L12.out⟩
end Go.Proofs.Ytjhhhkhcnohmiaa
