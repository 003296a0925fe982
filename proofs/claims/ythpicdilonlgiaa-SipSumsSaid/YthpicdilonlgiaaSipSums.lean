/- The law SipSums, walked. -/
import Derived.Test.YthpicdilonlgiaaRefSum
import Derived.Test.YthpicdilonlgiaaSipWordsW
namespace Go.Proofs.Ythpicdilonlgiaa
open Go.RowKit

set_option maxRecDepth 100000 in
set_option maxHeartbeats 1000000 in
theorem sipSums_mid (a b : ByteArray) (hb : 4096 < b.size) (hb2 : b.size ≤ 65536) (w : World) :
    Calls Try.prog 7 #[.string a, .string b] w fun e w' => e = .returned (.bool true) ∧ Below w.heap.size w w' := by
  have hb1 : (4096 : Int) < (b.size : Int) := by omega
  have hb3 : (b.size : Int) ≤ 65536 := by omega
  clear hb hb2
  go_enter Try.func7, Try.ntmps7
  go_wp2_with (fail)
  refine (lives08 _).mono ?_
  rintro e w1 ⟨rfl, hw1⟩
  go_wp2_with (fail)
  go_ret
  exact ⟨rfl, hw1⟩

set_option maxRecDepth 100000 in
set_option maxHeartbeats 1000000 in
theorem sipSums_long (a b : ByteArray) (ha : a.size ≤ 9223372036854775807) (hb0 : b.size ≤ 9223372036854775807) (hb : 65536 < b.size) (w : World) :
    Calls Try.prog 7 #[.string a, .string b] w fun e w' => e = .returned (.bool true) ∧ Below w.heap.size w w' := by
  have hb1 : (65536 : Int) < (b.size : Int) := by omega
  have hb2 : (4096 : Int) < (b.size : Int) := by omega
  clear hb
  go_enter Try.func7, Try.ntmps7
  go_wp2_with (fail)
  refine (Sum_any a b ha hb0 _).mono ?_
  rintro e w1 ⟨rfl, hw1⟩
  have HR : ∀ x y, x = sumN a.data.toList b.data.toList → y = sumE a.data.toList b.data.toList → ∀ W, Calls Try.prog 43 #[.string a, .string b] W fun e w' => e = .returned (.tuple #[.int .u64 x, .int .i64 y]) ∧ Below W.heap.size W w' := by
    rintro _ _ rfl rfl W
    exact rSum_any a b ha hb0 W
  have HR2 := HR _ _ rfl rfl
  have HRR := Lib.hid HR2
  clear HR HR2
  generalize sumN a.data.toList b.data.toList = x at HRR ⊢
  generalize sumE a.data.toList b.data.toList = y at HRR ⊢
  go_wp2_with (fail)
  refine (HRR.out _).mono ?_
  rintro e w2 ⟨rfl, hw2⟩
  go_wp2_with (fail)
  refine (lives08 _).mono ?_
  rintro e w3 ⟨rfl, hw3⟩
  have HW := Lib.hid ((hw1.trans (hw2.mono hw1.size)).trans (hw3.mono (Nat.le_trans hw1.size hw2.size)))
  go_wp2_with (fail)
  go_ret
  exact ⟨retb (by simp), HW.out⟩

set_option maxRecDepth 100000 in
set_option maxHeartbeats 1000000 in
theorem sipSums_small (a b : ByteArray) (ha : a.size ≤ 9223372036854775807) (hb : b.size ≤ 4096) (w : World) :
    Calls Try.prog 7 #[.string a, .string b] w fun e w' => e = .returned (.bool true) ∧ Below w.heap.size w w' := by
  have hb0 : b.size ≤ 9223372036854775807 := by omega
  have hb2 : (b.size : Int) ≤ 4096 := by omega
  go_enter Try.func7, Try.ntmps7
  go_wp2_with (fail)
  refine (Sum_any a b ha hb0 _).mono ?_
  rintro e w1 ⟨rfl, hw1⟩
  have HRR := Lib.hid (rSum_any a b ha hb0)
  generalize sumN a.data.toList b.data.toList = x at HRR ⊢
  generalize sumE a.data.toList b.data.toList = y at HRR ⊢
  go_wp2_with (fail)
  refine (HRR.out _).mono ?_
  rintro e w2 ⟨rfl, hw2⟩
  go_wp2_with (fail)
  refine (Words_any b (by omega) _).mono ?_
  rintro e w3 ⟨v1, rfl, ho1, hw3⟩
  obtain ⟨g1, cap1, rfl, _, hlt1⟩ := ho1.form (by rw [wordsB_length]; omega)
  go_wp2_with (fail)
  refine (rwords_any b (by omega) _).mono ?_
  rintro e w4 ⟨v2, rfl, ho2, hw4⟩
  obtain ⟨g2, cap2, rfl, _, hlt2⟩ := ho2.form (by rw [wordsB_length]; omega)
  have hxl := wordsB_length b.data.toList
  have cX := own_cells ho1
  have cY := own_cells ho2
  generalize hX : wordsB b.data.toList = X at *
  have cX3 : ∀ k (hk : k < X.length), w4.cell? ⟨g1, k, none⟩ = some (.int .u64 (U X[k])) := fun k hk => (hw4.cell (p := ⟨g1, k, none⟩) hlt1).trans (cX k hk)
  have HCX := Lib.hid cX3
  have HCY := Lib.hid cY
  have hxm : (X.length : Int) ≤ 1000 := by simp at hxl; omega
  have h12 := hw1.trans (hw2.mono hw1.size)
  have h13 := h12.trans (hw3.mono h12.size)
  have HB : Below w.heap.size w w4 := h13.trans (hw4.mono h13.size)
  clear hxl cX3 cY cX ho1 ho2 hw1 hw2 hw3 hw4 h12 h13 hlt1 hlt2 hX
  go_wp2_with (fail)
  go_loopg [11, 47] X.length (fun g _s i wr => ∃ k q : Nat, g + k = X.length ∧ i = .int .i64 (k : Int) ∧ wr = w4.drewN q)
  case atStart => exact ⟨0, 0, by omega, rfl, rfl⟩
  case round =>
    obtain ⟨k, q, hk, rfl, rfl⟩ := hrel
    have HK := Lib.hid hk
    by_cases hlt : k < X.length
    · have hki : (k : Int) < (X.length : Int) := by omega
      have c1 := HCX.out k hlt
      have c2 := HCY.out k hlt
      clear hk
      generalize X[k] = xk at *
      go_wp2
      go_quiet (fail)
      go_wp2
      go_roundg (X.length - (k + 1))
      case measure => have := HK.out; omega
      case rel =>
        have := HK.out
        exact ⟨k + 1, q + nq, by omega, by go_num, by first | rfl | rw [World.drewN_drewN]⟩
    · obtain rfl : k = X.length := by omega
      have hge : decide ((X.length : Int) < (X.length : Int)) = false := by simp
      clear hk hlt
      go_wp2_with (fail)
      refine (lives08 _).mono ?_
      rintro e w5 ⟨rfl, hw5⟩
      have HW := Lib.hid ((below_drewN HB q).trans (hw5.mono HB.size))
      go_wp2_with (fail)
      go_ret
      exact ⟨retb (by simp), HW.out⟩

theorem sipSums_law (a b : ByteArray) (ha : a.size ≤ maxLen) (hb : b.size ≤ maxLen) (w : World) :
    Calls Try.prog 7 #[.string a, .string b] w fun e w' => e = .returned (.bool true) ∧ Below w.heap.size w w' := by
  unfold maxLen at ha hb
  by_cases h1 : b.size ≤ 4096
  · exact sipSums_small a b (by omega) h1 w
  · by_cases h2 : b.size ≤ 65536
    · exact sipSums_mid a b (by omega) h2 w
    · exact sipSums_long a b (by omega) (by omega) (by omega) w
end Go.Proofs.Ythpicdilonlgiaa
