/- The walk of hardtacklaw02.WalkTells. -/
import Derived.Test.YtjhhhkhcnohmiaaLives02
import Derived.Test.YtjhhhkhcnohmiaaRefNext
import Derived.Test.YtjhhhkhcnohmiaaRefLess
namespace Go.Proofs.Ytjhhhkhcnohmiaa
open Go.RowKit Go.Lib

/-- What Common answers. -/
def comP (a b : Bs) : Bs × Int := if (isName a && isName b) = true then (comB a b, 0) else ([], 2)
theorem Common_any (a b : ByteArray) (ha : a.size ≤ maxLen) (hb : b.size ≤ maxLen) (w : World) :
    Calls Try.prog 33 #[.string a, .string b] w fun e w' => e = .returned (.tuple #[.string ⟨(comP a.data.toList b.data.toList).1.toArray⟩, .int .i64 (comP a.data.toList b.data.toList).2]) ∧ Below w.heap.size w w' := by
  unfold comP
  by_cases h : (isName a.data.toList && isName b.data.toList) = true
  · rw [if_pos h]
    simp only [Bool.and_eq_true] at h
    exact Common_yes a b ha hb h.1 h.2 w
  · rw [if_neg h]
    exact Common_no a b ha hb (by simpa using h) w
theorem rCommon_any (a b : ByteArray) (ha : a.size ≤ maxLen) (hb : b.size ≤ maxLen) (w : World) :
    Calls Try.prog 34 #[.string a, .string b] w fun e w' => e = .returned (.tuple #[.string ⟨(comP a.data.toList b.data.toList).1.toArray⟩, .int .i64 (comP a.data.toList b.data.toList).2]) ∧ Below w.heap.size w w' := by
  unfold comP
  by_cases h : (isName a.data.toList && isName b.data.toList) = true
  · rw [if_pos h]
    simp only [Bool.and_eq_true] at h
    exact rCommon_yes a b ha hb h.1 h.2 w
  · rw [if_neg h]
    exact rCommon_no a b ha hb (by simpa using h) w

set_option maxRecDepth 100000 in
set_option maxHeartbeats 8000000 in
theorem tells_yes (a b : ByteArray) (ha : a.size ≤ 1000) (hb : b.size ≤ 1000) (w : World) :
    Calls Try.prog 7 #[.string a, .string b] w fun e w' => e = .returned (.bool true) ∧ Below w.heap.size w w' := by
  have ham : a.size ≤ maxLen := by unfold maxLen; omega
  have hbm : b.size ≤ maxLen := by unfold maxLen; omega
  have H1 := Lib.hid (fun W => Common_any a b ham hbm W)
  have H2 := Lib.hid (fun W => rCommon_any a b ham hbm W)
  have H3 := Lib.hid (fun W => Next_any a b hbm ham W)
  have H4 := Lib.hid (fun W => rNext_any a b hbm ham W)
  obtain ⟨C, hC⟩ : ∃ C : ByteArray, (⟨(comP a.data.toList b.data.toList).1.toArray⟩ : ByteArray) = C := ⟨_, rfl⟩
  obtain ⟨cw, hcw⟩ : ∃ c, (comP a.data.toList b.data.toList).2 = c := ⟨_, rfl⟩
  obtain ⟨D, hD⟩ : ∃ C : ByteArray, (⟨(nextP a.data.toList b.data.toList).1.toArray⟩ : ByteArray) = C := ⟨_, rfl⟩
  obtain ⟨dw, hdw⟩ : ∃ c, (nextP a.data.toList b.data.toList).2 = c := ⟨_, rfl⟩
  rw [hC, hcw] at H1 H2
  rw [hD, hdw] at H3 H4
  have H5 := Lib.hid (fun W => lives02 W)
  have H6 := Lib.hid (fun W => Depth_any a b ham hbm W)
  have H7 := Lib.hid (fun W => rDepth_any a b ham hbm W)
  have H8 := Lib.hid (fun W => Less_any a b ham hbm W)
  have H9 := Lib.hid (fun W => rLess_any a b ham hbm W)
  have H10 := Lib.hid (fun W => list_any a ham W)
  have H11 := Lib.hid (fun W => rUp_any a ham W)
  have hle := ups_le a.data.toList
  generalize depthN a.data.toList b.data.toList = d at H6 H7
  generalize lessP a.data.toList b.data.toList = l at H8 H9
  generalize upsL a.data.toList = U at H10 H11 hle
  have HU := Lib.hid hle
  have haI : ¬ 1000 < (a.size : Int) := by omega
  have hbI : ¬ 1000 < (b.size : Int) := by omega
  have e1 : (C.toList == C.toList) = true := by simp
  have e2 : (D.toList == D.toList) = true := by simp
  have e3 : (cw == cw) = true := by simp
  have e4 : (dw == dw) = true := by simp
  have e5 : (d == d) = true := by simp
  have e6 : (l == l) = true := by simp
  clear hC hcw hD hdw ham hbm ha hb hle
  go_enter Try.func7, Try.ntmps7
  go_wp2_with (fail)
  with_reducible refine (H1.out _).mono ?_
  rintro e w1 ⟨rfl, hb⟩
  have B1 := Lib.hid hb
  clear hb
  go_wp2_with (fail)
  with_reducible refine (H2.out _).mono ?_
  rintro e w2 ⟨rfl, hb⟩
  have B2 := Lib.hid (B1.out.trans (hb.mono B1.out.size))
  clear hb
  go_wp2_with (fail)
  with_reducible refine (H3.out _).mono ?_
  rintro e w3 ⟨rfl, hb⟩
  have B3 := Lib.hid (B2.out.trans (hb.mono B2.out.size))
  clear hb
  go_wp2_with (fail)
  with_reducible refine (H4.out _).mono ?_
  rintro e w4 ⟨rfl, hb⟩
  have B4 := Lib.hid (B3.out.trans (hb.mono B3.out.size))
  clear hb
  go_wp2_with (fail)
  with_reducible refine (H5.out _).mono ?_
  rintro e w5 ⟨rfl, hb⟩
  have B5 := Lib.hid (B4.out.trans (hb.mono B4.out.size))
  clear hb
  go_wp2_with (fail)
  with_reducible refine (H6.out _).mono ?_
  rintro e w6 ⟨rfl, hb⟩
  have B6 := Lib.hid (B5.out.trans (hb.mono B5.out.size))
  clear hb
  go_wp2_with (fail)
  with_reducible refine (H7.out _).mono ?_
  rintro e w7 ⟨rfl, hb⟩
  have B7 := Lib.hid (B6.out.trans (hb.mono B6.out.size))
  clear hb
  go_wp2_with (fail)
  with_reducible refine (H8.out _).mono ?_
  rintro e w8 ⟨rfl, hb⟩
  have B8 := Lib.hid (B7.out.trans (hb.mono B7.out.size))
  clear hb
  go_wp2_with (fail)
  with_reducible refine (H9.out _).mono ?_
  rintro e w9 ⟨rfl, hb⟩
  have B9 := Lib.hid (B8.out.trans (hb.mono B8.out.size))
  clear hb
  go_wp2_with (fail)
  with_reducible refine (H10.out _).mono ?_
  rintro e w10 ⟨A1, c1, rfl, h1, _, hb⟩
  have B10 := Lib.hid (B9.out.trans (hb.mono B9.out.size))
  have T10 := Lib.hid (sl_tt h1)
  clear hb h1
  go_wp2_with (fail)
  with_reducible refine (H11.out _).mono ?_
  rintro e w11 ⟨A2, c2, rfl, h1, _, hb⟩
  have B11 := Lib.hid (B10.out.trans (hb.mono B10.out.size))
  have hUs : (U.map fun x => (⟨x.toArray⟩ : ByteArray)).map Value.string = strs U := by simp [strs]
  have hUl : (U.map fun x => (⟨x.toArray⟩ : ByteArray)).length = U.length := List.length_map _
  have hst := sameT_any (U.map fun x => (⟨x.toArray⟩ : ByteArray)) A1 A2 c1 c2 w11 (by rw [hUs]; exact T10.out.below hb) (by rw [hUs]; exact sl_tt h1) (by rw [hUl]; have := HU.out; omega)
  rw [hUl] at hst
  have H12 := Lib.hid hst
  clear hb h1 hst hUs hUl
  go_wp2_with (fail)
  with_reducible refine (H12.out).mono ?_
  rintro e w12 ⟨rfl, hb⟩
  have B12 := Lib.hid (B11.out.trans (hb.mono B11.out.size))
  clear hb
  go_wp2_with (fail)
  go_ret
  exact ⟨rfl, B12.out⟩

set_option maxRecDepth 100000 in
set_option maxHeartbeats 2000000 in
theorem walkTells_law (a b : ByteArray) (ha : a.size ≤ maxLen) (hb : b.size ≤ maxLen) (w : World) :
    Calls Try.prog 7 #[.string a, .string b] w fun e w' => e = .returned (.bool true) ∧ Below w.heap.size w w' := by
  unfold maxLen at ha hb
  have haM : (a.size : Int) ≤ 9223372036854775807 := by omega
  have hbM : (b.size : Int) ≤ 9223372036854775807 := by omega
  by_cases h1 : 1000 < a.size
  · have haI : 1000 < (a.size : Int) := by omega
    have H5 := Lib.hid (fun W => lives02 W)
    clear h1 ha hb
    go_enter Try.func7, Try.ntmps7
    go_wp2_with (fail)
    with_reducible refine (H5.out _).mono ?_
    rintro e w1 ⟨rfl, hb⟩
    go_wp2_with (fail)
    go_ret
    exact ⟨rfl, hb⟩
  · by_cases h2 : 1000 < b.size
    · have haI : ¬ 1000 < (a.size : Int) := by omega
      have hbI : 1000 < (b.size : Int) := by omega
      have H5 := Lib.hid (fun W => lives02 W)
      clear h1 h2 ha hb
      go_enter Try.func7, Try.ntmps7
      go_wp2_with (fail)
      with_reducible refine (H5.out _).mono ?_
      rintro e w1 ⟨rfl, hb⟩
      go_wp2_with (fail)
      go_ret
      exact ⟨rfl, hb⟩
    · exact tells_yes a b (by omega) (by omega) w
end Go.Proofs.Ytjhhhkhcnohmiaa
