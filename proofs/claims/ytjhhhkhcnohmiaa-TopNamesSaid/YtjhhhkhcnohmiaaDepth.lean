/- The walks of package walk's Depth and Up, as an iterator. -/
import Derived.Test.YtjhhhkhcnohmiaaWithin
import Derived.Test.YtjhhhkhcnohmiaaParent
namespace Go.Proofs.Ytjhhhkhcnohmiaa
open Go.RowKit Go.Shelf
attribute [local go_sem] Oper.semAt_some

/-- How many labels the first has more than the second; -1: it does not lie within it. -/
def depthN (a z : Bs) : Int := if withinB a z = true then ((namL a).length : Int) - ((namL z).length : Int) else -1

set_option maxRecDepth 100000 in
set_option maxHeartbeats 1000000 in
theorem Depth_any (a z : ByteArray) (ha : a.size ≤ maxLen) (hz : z.size ≤ maxLen) (w : World) :
    Calls Try.prog 23 #[.string a, .string z] w fun e w' => e = .returned (.int .i64 (depthN a.data.toList z.data.toList)) ∧ Below w.heap.size w w' := by
  have HW := Lib.hid (fun W => Within_any a z ha hz W)
  have HA := Lib.hid (fun W => Count_any a ha W)
  have HZ := Lib.hid (fun W => Count_any z hz W)
  have h1 : (namL a.data.toList).length ≤ a.size := by have := namL_length_le a.data.toList; simpa using this
  have h2 : (namL z.data.toList).length ≤ z.size := by have := namL_length_le z.data.toList; simpa using this
  unfold maxLen at ha hz
  unfold depthN
  generalize (namL a.data.toList).length = k at HA h1 ⊢
  generalize (namL z.data.toList).length = j at HZ h2 ⊢
  generalize withinB a.data.toList z.data.toList = b at HW ⊢
  have hw : wrap64 ((k : Int) - (j : Int)) = (k : Int) - (j : Int) := by unfold wrap64; omega
  have b1 : -9223372036854775808 ≤ (k : Int) - (j : Int) := by omega
  have b2 : (k : Int) - (j : Int) ≤ 9223372036854775807 := by omega
  clear h1 h2 ha hz
  cases b with
  | false =>
    clear hw b1 b2
    go_enter Try.func23, Try.ntmps23
    go_wp2_with (fail)
    refine (HW.out _).mono ?_
    rintro e w1 ⟨rfl, hb1⟩
    have B1 := Lib.hid hb1
    clear hb1
    go_wp2_with (fail)
    go_ret
    exact ⟨rfl, B1.out⟩
  | true =>
    go_enter Try.func23, Try.ntmps23
    go_wp2_with (fail)
    refine (HW.out _).mono ?_
    rintro e w1 ⟨rfl, hb1⟩
    have B1 := Lib.hid hb1
    clear hb1
    go_wp2_with (fail)
    refine (HA.out _).mono ?_
    rintro e w2 ⟨rfl, hb2⟩
    have B2 := Lib.hid (B1.out.trans (hb2.mono B1.out.size))
    clear hb2
    go_wp2_with (fail)
    refine (HZ.out _).mono ?_
    rintro e w3 ⟨rfl, hb3⟩
    have B3 := Lib.hid (B2.out.trans (hb3.mono B2.out.size))
    clear hb3
    go_wp2_with (fail)
    go_ret
    exact ⟨rfl, B3.out⟩
end Go.Proofs.Ytjhhhkhcnohmiaa
