/- hardtacktop.begins. -/
import Derived.Test.YtgfpnkakglgokaaCount
import Derived.OwnWalk
namespace Go.Proofs.Ytgfpnkakglgokaa
open Go.RowKit

def nmBeg : ByteArray := ⟨#[1, 97, 3, 111, 114, 103, 0]⟩
theorem begins_cnt (w : World) : Calls Try.prog 11 #[.string nmBeg] w fun e w' => e = .returned (.int .i64 2) ∧ Below w.heap.size w w' := by
  have := Count_any nmBeg (by decide) w
  rw [show (namL nmBeg.data.toList).length = 2 by decide] at this
  exact this
set_option maxRecDepth 100000 in
theorem begins_any (w : World) : Calls Try.prog 4 #[] w fun e w' => e = .returned (.bool true) ∧ Below w.heap.size w w' := by
  go_enter Try.func4, Try.ntmps4
  go_wp2_with (fail)
  refine (begins_cnt _).mono ?_
  rintro e w1 ⟨rfl, hb1⟩
  have B1 := Lib.hid hb1
  clear hb1
  go_wp2_with (fail)
  go_ret
  exact ⟨rfl, B1.out⟩
end Go.Proofs.Ytgfpnkakglgokaa
