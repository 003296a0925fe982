/- The walks of hardtackref01's Check and Fold. The walk of the reference's Same (hardtackref01). Conditions: none. -/
import Derived.Test.YthjkdpphbipgfaaRef01
import Derived.Test.YthjkdpphbipgfaaLetters
import Derived.Test.YthjkdpphbipgfaaSame
namespace Go.Proofs.Ythjkdpphbipgfaa
open Go.RowKit

set_option maxRecDepth 100000 in
theorem rCheck_any (s : ByteArray) (hs : s.size ≤ maxLen) (w : World) : Calls Try.prog 79 #[.string s] w fun e w' => e = .returned (.int .i64 (chkN s.data.toList)) ∧ Below w.heap.size w w' := by
  have H := Lib.hid (rSplit_any s hs w)
  have hcase := chk_cases s.data.toList
  rcases hcase with ⟨h1, h2⟩ | ⟨h1, h2⟩
  all_goals
    rw [h2]
    have H1 := Lib.hid h1
    clear h1 h2 hs
    go_enter Try.func79, Try.ntmps79
    go_wp2_with (fail)
    with_reducible refine (H.out).mono ?_
    rintro e w1 ⟨v, rfl, ⟨A, n, c, rfl⟩, _, hb⟩
    rw [H1.out]
    go_wp2_with (fail)
    go_ret
    exact ⟨rfl, hb⟩

set_option maxHeartbeats 1000000 in
set_option maxRecDepth 100000 in
theorem rFold_any (s : ByteArray) (hs : s.size ≤ 9223372036854775807) (w : World) :
    Calls Try.prog 80 #[.string s] w fun e w' => e = .returned (.string ⟨(foldB s.data.toList).toArray⟩) ∧ Below w.heap.size w w' := by
  have hcv := fun w : World => run_bytes_of_string (P := Try.prog) w _ _ _ s Try.underlying9 Try.underlying129 Try.underlying5
  have hs1 : (s.size : Int) ≤ 9223372036854775807 := by omega
  go_enter Try.func80, Try.ntmps80
  go_wp2_with (fail)
  have hsz : s.data.toList.length = s.size := by simp
  have HB0 : Below w.heap.size w (w.alloc (.cells (bytesRow s (grownCap w s.size 0 5)) 5 ((bytesRow s (grownCap w s.size 0 5)).size, (bytesRow s (grownCap w s.size 0 5)).size + 1))).drew := ((Below.refl _ _).alloc (Nat.le_refl _) _).drew
  have hR0 := byR_new w s (grownCap w s.size 0 5)
  generalize grownCap w s.size 0 5 = cap at HB0 hR0 ⊢
  have HS := Lib.hid hsz
  clear hcv hsz
  go_loopg [10] s.size (fun g i wr => ∃ k : Nat, g + k = s.size ∧ i = .int .i64 (k : Int) ∧ ByR wr w.heap.size (foldTo s.data.toList k) ∧ Below w.heap.size w wr)
  case atStart => exact ⟨0, by omega, rfl, by rw [foldTo_zero]; exact hR0, HB0⟩
  case round =>
    obtain ⟨k, hk, rfl, hB, hb⟩ := hrel
    clear hR0 HB0
    by_cases hlt : k < s.size
    · obtain ⟨c, hc⟩ : ∃ c, s.data.toList[k]? = some c := ⟨_, List.getElem?_eq_getElem (by have := HS.out; omega)⟩
      have hki : (k : Int) < (s.size : Int) := by omega
      have c0 := hB.cell (foldTo_at hc)
      have f0 := hB.frozen (j := k) (by rw [foldTo_length]; have := HS.out; omega)
      have hc255 := c.toNat_lt
      have HC := Lib.hid hc
      clear hc
      by_cases h65 : 65 ≤ c.toNat ∧ c.toNat ≤ 90
      · have h1 : (65 : Int) ≤ (c.toNat : Int) := by omega
        have h2 : (c.toNat : Int) ≤ 90 := by omega
        have hlow : ((lowB c).toNat : Int) = (c.toNat : Int) + 32 := by rw [lowB_toNat, if_pos h65]; omega
        have HLo := Lib.hid hlow
        clear hlow h65
        go_wp2_with (fail)
        go_roundg (s.size - (k + 1))
        case measure => omega
        case rel =>
          refine ⟨k + 1, by omega, by go_num, ?_, hb.setCell (p := ⟨w.heap.size, k, none⟩) (Nat.le_refl _) _⟩
          have h3 := hB.set_ k (lowB c)
          rw [foldTo_succ HC.out, HLo.out] at h3
          exact h3
      · have hlow : lowB c = c := by unfold lowB; rw [if_neg h65]
        have HLo := Lib.hid hlow
        have hT : ¬ (65 : Int) ≤ (c.toNat : Int) ∨ ((65 : Int) ≤ (c.toNat : Int) ∧ ¬ (c.toNat : Int) ≤ 90) := by omega
        clear hlow h65
        rcases hT with h1 | ⟨h1, h2⟩
        all_goals
          go_wp2_with (fail)
          go_roundg (s.size - (k + 1))
          case measure => omega
          case rel => exact ⟨k + 1, by omega, by go_num, by rw [← foldTo_same HC.out HLo.out]; exact hB, hb⟩
    · obtain rfl : k = s.size := by omega
      have hst := hB.str (P := Try.prog) (src := 129) (dst := 9) cap Try.underlying129 Try.underlying5 Try.underlying9
      rw [foldTo_length, HS.out, show foldTo s.data.toList s.size = foldB s.data.toList by rw [← HS.out, foldTo_all]] at hst
      clear hlt
      go_wp2_with (fail)
      go_ret
      exact ⟨rfl, hb⟩
end Go.Proofs.Ythjkdpphbipgfaa

namespace Go.Proofs.Ythjkdpphbipgfaa
open Go.RowKit Go.Lib

set_option maxRecDepth 100000 in
set_option maxHeartbeats 1000000 in
theorem rSame_any (a b : ByteArray) (ha : a.size ≤ maxLen) (hb : b.size ≤ maxLen) (w : World) : Calls Try.prog 44 #[.string a, .string b] w fun e w' => e = .returned (.bool (sameB a.data.toList b.data.toList)) ∧ Below w.heap.size w w' := by
  have HA := Lib.hid (fun W => rCheck_any a ha W)
  have HB := Lib.hid (fun W => rCheck_any b hb W)
  unfold maxLen at ha hb
  have HF := Lib.hid (fun W => rFold_any a (by omega) W)
  have HG := Lib.hid (fun W => rFold_any b (by omega) W)
  obtain ⟨F, hF⟩ : ∃ F : ByteArray, (⟨(foldB a.data.toList).toArray⟩ : ByteArray) = F := ⟨_, rfl⟩
  obtain ⟨G, hG⟩ : ∃ F : ByteArray, (⟨(foldB b.data.toList).toArray⟩ : ByteArray) = F := ⟨_, rfl⟩
  rw [hF] at HF
  rw [hG] at HG
  obtain ⟨r, hr⟩ : ∃ r, sameB a.data.toList b.data.toList = r := ⟨_, rfl⟩
  rw [hr]
  unfold sameB at hr
  rcases chk_cases a.data.toList with ⟨ha1, ha2⟩ | ⟨ha1, ha2⟩
  · rw [ha2] at HA
    rcases chk_cases b.data.toList with ⟨hb1, hb2⟩ | ⟨hb1, hb2⟩
    · rw [hb2] at HB
      have hr2 : (F.toList == G.toList) = r := by
        rw [ha1, hb1] at hr
        rw [← hr, ByteArray.toList_eq, ByteArray.toList_eq, ← hF, ← hG]
        simp only [Bool.true_and]
        by_cases he : foldB a.data.toList = foldB b.data.toList
        · have h2 := congrArg List.length he
          rw [foldB_length, foldB_length] at h2
          simp [he, h2]
        · simp [he]
      clear ha1 ha2 hb1 hb2 hr hF hG ha hb
      go_enter Try.func44, Try.ntmps44
      go_wp2_with (fail)
      with_reducible refine (HA.out _).mono ?_
      rintro e w1 ⟨rfl, hb⟩
      have B1 := Lib.hid hb
      clear hb
      go_wp2_with (fail)
      with_reducible refine (HB.out _).mono ?_
      rintro e w2 ⟨rfl, hb⟩
      have B2 := Lib.hid (B1.out.trans (hb.mono B1.out.size))
      clear hb
      go_wp2_with (fail)
      with_reducible refine (HF.out _).mono ?_
      rintro e w3 ⟨rfl, hb⟩
      have B3 := Lib.hid (B2.out.trans (hb.mono B2.out.size))
      clear hb
      go_wp2_with (fail)
      with_reducible refine (HG.out _).mono ?_
      rintro e w4 ⟨rfl, hb⟩
      have B4 := Lib.hid (B3.out.trans (hb.mono B3.out.size))
      clear hb
      go_wp2_with (fail)
      go_ret
      exact ⟨rfl, B4.out⟩
    · rw [hb2] at HB
      have hrf : r = false := by rw [← hr, hb1]; simp
      subst hrf
      clear ha1 ha2 hb1 hb2 hr hF hG ha hb
      go_enter Try.func44, Try.ntmps44
      go_wp2_with (fail)
      with_reducible refine (HA.out _).mono ?_
      rintro e w1 ⟨rfl, hb⟩
      have B1 := Lib.hid hb
      clear hb
      go_wp2_with (fail)
      with_reducible refine (HB.out _).mono ?_
      rintro e w2 ⟨rfl, hb⟩
      have B2 := Lib.hid (B1.out.trans (hb.mono B1.out.size))
      clear hb
      go_wp2_with (fail)
      go_ret
      exact ⟨rfl, B2.out⟩
  · rw [ha2] at HA
    have hrf : r = false := by rw [← hr, ha1]; simp
    subst hrf
    clear ha1 ha2 hr hF hG ha hb
    go_enter Try.func44, Try.ntmps44
    go_wp2_with (fail)
    with_reducible refine (HA.out _).mono ?_
    rintro e w1 ⟨rfl, hb⟩
    have B1 := Lib.hid hb
    clear hb
    go_wp2_with (fail)
    go_ret
    exact ⟨rfl, B1.out⟩
end Go.Proofs.Ythjkdpphbipgfaa
