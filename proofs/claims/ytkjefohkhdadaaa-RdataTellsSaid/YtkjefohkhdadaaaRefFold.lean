/- The walks of hardtackref01's Check and Fold. -/
import Derived.Test.YtkjefohkhdadaaaRef01
import Derived.Test.YtkjefohkhdadaaaLetters
import Derived.Test.YtkjefohkhdadaaaSame
namespace Go.Proofs.Ytkjefohkhdadaaa
open Go.RowKit

set_option maxRecDepth 100000 in
theorem rCheck_any (s : ByteArray) (hs : s.size ≤ maxLen) (w : World) : Calls Try.prog 15 #[.string s] w fun e w' => e = .returned (.int .i64 (chkN s.data.toList)) ∧ Below w.heap.size w w' := by
  have H := Lib.hid (rSplit_any s hs w)
  have hcase := chk_cases s.data.toList
  rcases hcase with ⟨h1, h2⟩ | ⟨h1, h2⟩
  all_goals
    rw [h2]
    have H1 := Lib.hid h1
    clear h1 h2 hs
    go_enter Try.func15, Try.ntmps15
    go_wp2_with (fail)
    with_reducible refine (H.out).mono ?_
    rintro e w1 ⟨v, rfl, ⟨A, n, c, rfl⟩, _, hb⟩
    rw [H1.out]
    go_wp2_with (fail)
    go_ret
    exact ⟨rfl, hb⟩

set_option maxHeartbeats 1000000 in
set_option maxRecDepth 100000 in
theorem rFold_any (s : ByteArray) (hs : s.size ≤ 9223372036854775807) (w : World) :
    Calls Try.prog 112 #[.string s] w fun e w' => e = .returned (.string ⟨(foldB s.data.toList).toArray⟩) ∧ Below w.heap.size w w' := by
  have hcv := fun w : World => run_bytes_of_string (P := Try.prog) w _ _ _ s Try.underlying9 Try.underlying106 Try.underlying5
  have hs1 : (s.size : Int) ≤ 9223372036854775807 := by omega
  go_enter Try.func112, Try.ntmps112
  go_wp2_with (fail)
  have hsz : s.data.toList.length = s.size := by simp
  have HB0 : Below w.heap.size w (w.alloc (.cells (bytesRow s (grownCap w s.size 0 5)) 5 ((bytesRow s (grownCap w s.size 0 5)).size, (bytesRow s (grownCap w s.size 0 5)).size + 1))).drew := ((Below.refl _ _).alloc (Nat.le_refl _) _).drew
  have hR0 := byR_new w s (grownCap w s.size 0 5)
  generalize grownCap w s.size 0 5 = cap at HB0 hR0 ⊢
  have HS := Lib.hid hsz
  clear hcv hsz
  go_loopg [10] s.size (fun g i wr => ∃ k : Nat, g + k = s.size ∧ i = .int .i64 (k : Int) ∧ ByR wr w.heap.size (foldTo s.data.toList k) ∧ Below w.heap.size w wr)
  case atStart => exact ⟨0, by omega, rfl, by rw [foldTo_zero]; exact hR0, HB0⟩
  case round =>
    obtain ⟨k, hk, rfl, hB, hb⟩ := hrel
    clear hR0 HB0
    by_cases hlt : k < s.size
    · obtain ⟨c, hc⟩ : ∃ c, s.data.toList[k]? = some c := ⟨_, List.getElem?_eq_getElem (by have := HS.out; omega)⟩
      have hki : (k : Int) < (s.size : Int) := by omega
      have c0 := hB.cell (foldTo_at hc)
      have f0 := hB.frozen (j := k) (by rw [foldTo_length]; have := HS.out; omega)
      have hc255 := c.toNat_lt
      have HC := Lib.hid hc
      clear hc
      by_cases h65 : 65 ≤ c.toNat ∧ c.toNat ≤ 90
      · have h1 : (65 : Int) ≤ (c.toNat : Int) := by omega
        have h2 : (c.toNat : Int) ≤ 90 := by omega
        have hlow : ((lowB c).toNat : Int) = (c.toNat : Int) + 32 := by rw [lowB_toNat, if_pos h65]; omega
        have HLo := Lib.hid hlow
        clear hlow h65
        go_wp2_with (fail)
        go_roundg (s.size - (k + 1))
        case measure => omega
        case rel =>
          refine ⟨k + 1, by omega, by go_num, ?_, hb.setCell (p := ⟨w.heap.size, k, none⟩) (Nat.le_refl _) _⟩
          have h3 := hB.set_ k (lowB c)
          rw [foldTo_succ HC.out, HLo.out] at h3
          exact h3
      · have hlow : lowB c = c := by unfold lowB; rw [if_neg h65]
        have HLo := Lib.hid hlow
        have hT : ¬ (65 : Int) ≤ (c.toNat : Int) ∨ ((65 : Int) ≤ (c.toNat : Int) ∧ ¬ (c.toNat : Int) ≤ 90) := by omega
        clear hlow h65
        rcases hT with h1 | ⟨h1, h2⟩
        all_goals
          go_wp2_with (fail)
          go_roundg (s.size - (k + 1))
          case measure => omega
          case rel => exact ⟨k + 1, by omega, by go_num, by rw [← foldTo_same HC.out HLo.out]; exact hB, hb⟩
    · obtain rfl : k = s.size := by omega
      have hst := hB.str (P := Try.prog) (src := 106) (dst := 9) cap Try.underlying106 Try.underlying5 Try.underlying9
      rw [foldTo_length, HS.out, show foldTo s.data.toList s.size = foldB s.data.toList by rw [← HS.out, foldTo_all]] at hst
      clear hlt
      go_wp2_with (fail)
      go_ret
      exact ⟨rfl, hb⟩
end Go.Proofs.Ytkjefohkhdadaaa
