/- The walk of package pack's Writer's Num. -/
import Derived.Test.YtcphcgkbjlgkiaaWriter
import Derived.Test.YtcphcgkbjlgkiaaBig
namespace Go.Proofs.Ytcphcgkbjlgkiaa
open Go.RowKit

theorem wide_yes (k : Nat) (h : k = 1 ∨ k = 2 ∨ k = 4 ∨ k = 8) (w : World) : Calls Try.prog 90 #[.int .i64 (k : Int)] w fun e w' => e = .returned (.bool true) ∧ w = w' := by
  rcases h with rfl | rfl | rfl | rfl
  all_goals
    go_enter Try.func90, Try.ntmps90
    go_wp2
    go_ret
    exact ⟨rfl, rfl⟩

set_option maxRecDepth 100000 in
set_option maxHeartbeats 1000000 in
theorem wNum_any {K : Nat → Prop} {w : World} {b : Nat} {lim : Int} {full : Bool} {m : Value} {l : List UInt8} (k : Nat) (hk : k = 1 ∨ k = 2 ∨ k = 4 ∨ k = 8) (n : Nat) (hn : n ≤ 18446744073709551615) (h : Wr K w b lim full m l) (hl : l.length + 8 ≤ 140737488355328) (hlim : 0 ≤ lim ∧ lim ≤ 9223372036854775807) :
    Calls Try.prog 54 #[.pointer (some ⟨b, 0, none⟩), .int .i64 (k : Int), .int .u64 (n : Int)] w fun e w' => e = .returned (.tuple #[]) ∧ Wr K w' b lim (wput lim full l (bigB n k)).1 m (wput lim full l (bigB n k)).2 ∧ KeepK K w w' := by
  have HW := Lib.hid (fun W => wide_yes k hk W)
  have HK := Lib.hid hk
  have hk8 : 1 ≤ k ∧ k ≤ 8 := by omega
  obtain ⟨hk1, hk2⟩ := hk8
  have H := Lib.hid h
  have HL := Lib.hid (And.intro hl hlim)
  have HK0 := Lib.hid (fun i hi => (h.1 i hi).1)
  clear hk h hl hlim
  go_enter Try.func54, Try.ntmps54
  go_wp2_with (fail)
  refine (HW.out _).mono ?_
  rintro e w' ⟨rfl, rfl⟩
  go_wp2_with (fail)
  go_loopg [7, 11] 8 (fun g c i wr => ∃ j : Nat, g + j = 8 ∧ i = .int .i64 (j : Int) ∧ Aside (Blk wr w.heap.size 78 (bigC n j)) ∧ Aside (Below w.heap.size w wr))
  case atStart => exact ⟨0, by omega, rfl, by rw [bigC_zero]; exact Blk.new w _ _, (Below.refl _ _).alloc (Nat.le_refl _) _⟩
  case round =>
    obtain ⟨j, hj, rfl, hB, hb⟩ := hrel
    by_cases hlt : j < 8
    · have hfr := hB.out.frozen j
      have hc2 : ∃ v, wr.cell? ⟨w.heap.size, j, none⟩ = some v := by
        rw [hB.out.cell j]
        exact ⟨_, Array.getElem?_eq_getElem (by simp [bigC]; exact hlt)⟩
      obtain ⟨v, hc⟩ := hc2
      go_wp2_with (fail)
      go_roundg (8 - (j + 1))
      case measure => omega
      case rel =>
        refine ⟨j + 1, by omega, by go_num, ?_, hb.out.setCell (Nat.le_refl _) _⟩
        have h1 := hB.out.set_ j (b8 (bigI n j))
        rw [bigC_set] at h1
        unfold b8 at h1
        rw [← big_byte n j hlt] at h1
        exact h1
    · obtain rfl : j = 8 := by omega
      have hcells : ∀ i, i < 8 → wr.cell? ⟨w.heap.size, i, none⟩ = some (b8 (bigI n i)) := by
        intro i hi
        rw [hB.out.cell i]
        simp [bigC, hi]
      have HC := Lib.hid hcells
      clear hcells
      have hcv : ∀ cap, (convert 79 9 (.slice (some ⟨w.heap.size, 8 - k, none⟩) k cap)).run Try.prog wr = .ok (.string ⟨(bigB n k).toArray⟩) wr := by
        intro cap
        have := run_convert_bytes_back (P := Try.prog) wr 79 9 5 ⟨w.heap.size, 8 - k, none⟩ cap (bigB n k) Try.underlying79 Try.underlying5 Try.underlying9 (fun j hj => by
          rw [bigB_length] at hj
          have ea : (⟨w.heap.size, 8 - k, none⟩ : Addr).add j = ⟨w.heap.size, 8 - k + j, none⟩ := by unfold Addr.add; split <;> simp_all
          rw [ea, HC.out _ (by omega)]
          have := List.getElem?_eq_getElem (l := bigB n k) (by rw [bigB_length]; exact hj)
          rw [bigB_get hj] at this
          rw [← Option.some.inj this]
          rfl)
        rw [bigB_length] at this
        exact this
      have hP := fun (W : World) (h : Wr K W b lim full m l) => piece_any ⟨(bigB n k).toArray⟩ h (by
        show l.length + (bigB n k).toArray.size ≤ _
        rw [List.size_toArray, bigB_length]
        have := HL.out.1
        omega) HL.out.2
      simp only at hP
      have HW1 := Lib.hid (H.out.below hb.out)
      have HP := Lib.hid (hP wr HW1.out)
      generalize hx : bigB n k = x at hcv HP ⊢
      have HB := Lib.hid hb.out
      have HX := Lib.hid hx
      clear hP hx hk1 hk2 hB hb H HL HC hlt hj
      rcases HK.out with rfl | rfl | rfl | rfl
      all_goals
        simp only [Nat.reduceSub] at hcv
        go_wp2_with (fail)
        refine HP.out.mono ?_
        rintro e w2 ⟨rfl, h1, h2⟩
        have H1 := Lib.hid (And.intro h1 h2)
        clear h1 h2
        go_wp2_with (fail)
        refine bodyPost_end (results_none rfl _ _ _) rfl ?_
        have hw1 := H1.out.1
        rw [← HX.out] at hw1
        refine ⟨rfl, hw1, (KeepK.of_below HB.out fun i hi => ?_).trans H1.out.2⟩
        exact (HW1.out.1 i hi).1 |> fun _ => HK0.out i hi
end Go.Proofs.Ytcphcgkbjlgkiaa
