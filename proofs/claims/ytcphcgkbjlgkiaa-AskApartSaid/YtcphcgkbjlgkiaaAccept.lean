/- The walks of ask.Accept and of hardtackref07's cookie. -/
import Derived.Test.YtcphcgkbjlgkiaaEdns
namespace Go.Proofs.Ytcphcgkbjlgkiaa
open Go.RowKit Go.Lib

set_option maxRecDepth 100000 in
theorem rright_any (c s : ByteArray) (hc : c.size ≤ maxLen) (hs : s.size ≤ maxLen) (w : World) :
    Calls Try.prog 88 #[.string c, .string s] w fun e w' => e = .returned (.bool (rightB c s)) ∧ w = w' := by
  unfold maxLen at hc hs
  have hcI : (c.size : Int) ≤ 9223372036854775807 := by omega
  have hsI : (s.size : Int) ≤ 9223372036854775807 := by omega
  have hem := empty_iff s
  by_cases h8 : c.size = 8
  · have h1 : ((c.size : Int) == 8) = true := by simp [h8]
    by_cases h0 : s.size = 0
    · have hr : rightB c s = true := by unfold rightB; simp [h8, h0]
      rw [show (s.size == 0) = true by simp [h0]] at hem
      rw [hr]
      clear hr h0 h8 hc hs
      go_enter Try.func88, Try.ntmps88
      go_wp2_with (fail)
      go_ret
      exact ⟨rfl, rfl⟩
    · rw [show (s.size == 0) = false by simp [h0]] at hem
      have hr : rightB c s = (decide (8 ≤ s.size) && decide (s.size ≤ 32)) := by unfold rightB; simp [h8, h0]
      by_cases a : 8 ≤ s.size
      · have a1 : (8 : Int) ≤ (s.size : Int) := by omega
        by_cases b : s.size ≤ 32
        · have b1 : (s.size : Int) ≤ 32 := by omega
          rw [hr, show (decide (8 ≤ s.size) && decide (s.size ≤ 32)) = true by simp [a, b]]
          clear hr h0 h8 hc hs a b
          go_enter Try.func88, Try.ntmps88
          go_wp2_with (fail)
          go_ret
          exact ⟨rfl, rfl⟩
        · have b1 : ¬ (s.size : Int) ≤ 32 := by omega
          rw [hr, show (decide (8 ≤ s.size) && decide (s.size ≤ 32)) = false by simp [b]]
          clear hr h0 h8 hc hs a b
          go_enter Try.func88, Try.ntmps88
          go_wp2_with (fail)
          go_ret
          exact ⟨rfl, rfl⟩
      · have a1 : ¬ (8 : Int) ≤ (s.size : Int) := by omega
        rw [hr, show (decide (8 ≤ s.size) && decide (s.size ≤ 32)) = false by simp [a]]
        clear hr h0 h8 hc hs a
        go_enter Try.func88, Try.ntmps88
        go_wp2_with (fail)
        go_ret
        exact ⟨rfl, rfl⟩
  · have h1 : ((c.size : Int) == 8) = false := by simp only [beq_eq_false_iff_ne]; omega
    have hr : rightB c s = false := by unfold rightB; simp [h8]
    rw [hr]
    clear hr h8 hc hs hem
    go_enter Try.func88, Try.ntmps88
    go_wp2_with (fail)
    go_ret
    exact ⟨rfl, rfl⟩

/-- What Accept answers. -/
def acR (sent : ByteArray) (enf : Bool) (r : ByteArray × ByteArray × Int) : ByteArray × Int :=
  if r.2.2 = 2 then (⟨#[]⟩, 2) else if r.2.2 = 0 then (if r.1.toList == sent.toList then (r.2.1, 0) else (⟨#[]⟩, 6)) else if enf = true then (⟨#[]⟩, 3) else (r.2.1, 0)
theorem ckR_cases (xs : List Opt) : (ckR xs).2.2 = 2 ∨ (ckR xs).2.2 = 0 ∨ (ckR xs).2.2 = 3 := by
  unfold ckR
  split
  · right; right; rfl
  · split
    · right; left; rfl
    · left; rfl

set_option maxRecDepth 100000 in
set_option maxHeartbeats 1000000 in
theorem Accept_any (sent : ByteArray) (enf th : Bool) (sz hi ve fl : Int) (A : Option Addr) (xs : List Opt) (m : Nat) (w : World) (hT : OTab w A xs) (hn : xs.length ≤ 9223372036854775807) :
    Calls Try.prog 24 #[.string sent, .bool enf, .agg #[.bool th, .int .u16 sz, .int .u8 hi, .int .u8 ve, .int .u16 fl, .slice A xs.length m]] w fun e w' => e = .returned (.tuple #[.string (acR sent enf (ckR xs)).1, .int .i64 (acR sent enf (ckR xs)).2]) ∧ Below w.heap.size w w' := by
  have hb0 : Below w.heap.size w (w.alloc (.cells #[.bool th, .int .u16 sz, .int .u8 hi, .int .u8 ve, .int .u16 fl, .slice A xs.length m] 43)) := (Below.refl _ _).alloc (Nat.le_refl _) _
  have hC := Cookies_any th sz hi ve fl A xs m _ (hT.below hb0) hn
  have hcase := ckR_cases xs
  generalize hq : ckR xs = r at hC hcase ⊢
  obtain ⟨c, sv, n⟩ := r
  dsimp only at hC hcase
  have HC := Lib.hid hC
  have HB := Lib.hid hb0
  clear hC hb0 hT hq
  rcases hcase with rfl | rfl | rfl
  · have hr : acR sent enf (c, sv, 2) = (⟨#[]⟩, 2) := rfl
    rw [hr]
    clear hr
    go_enter Try.func24, Try.ntmps24
    go_wp2_with (fail)
    with_reducible refine HC.out.mono ?_
    rintro e w1 ⟨rfl, hb⟩
    go_wp2_with (fail)
    go_ret2
    exact ⟨rfl, HB.out.trans (hb.mono HB.out.size)⟩
  · cases hq : (c.toList == sent.toList)
    · have hr : acR sent enf (c, sv, 0) = (⟨#[]⟩, 6) := by unfold acR; simp [hq]
      have hq2 : (c.toList != sent.toList) = true := by unfold bne; rw [hq]; rfl
      rw [hr]
      clear hr
      go_enter Try.func24, Try.ntmps24
      go_wp2_with (fail)
      with_reducible refine HC.out.mono ?_
      rintro e w1 ⟨rfl, hb⟩
      go_wp2_with (fail)
      go_ret2
      exact ⟨rfl, HB.out.trans (hb.mono HB.out.size)⟩
    · have hr : acR sent enf (c, sv, 0) = (sv, 0) := by unfold acR; simp [hq]
      have hq2 : (c.toList != sent.toList) = false := by unfold bne; rw [hq]; rfl
      rw [hr]
      clear hr
      go_enter Try.func24, Try.ntmps24
      go_wp2_with (fail)
      with_reducible refine HC.out.mono ?_
      rintro e w1 ⟨rfl, hb⟩
      go_wp2_with (fail)
      go_ret2
      exact ⟨rfl, HB.out.trans (hb.mono HB.out.size)⟩
  · cases enf
    · have hr : acR sent false (c, sv, 3) = (sv, 0) := rfl
      rw [hr]
      clear hr
      go_enter Try.func24, Try.ntmps24
      go_wp2_with (fail)
      with_reducible refine HC.out.mono ?_
      rintro e w1 ⟨rfl, hb⟩
      go_wp2_with (fail)
      go_ret2
      exact ⟨rfl, HB.out.trans (hb.mono HB.out.size)⟩
    · have hr : acR sent true (c, sv, 3) = (⟨#[]⟩, 3) := rfl
      rw [hr]
      clear hr
      go_enter Try.func24, Try.ntmps24
      go_wp2_with (fail)
      with_reducible refine HC.out.mono ?_
      rintro e w1 ⟨rfl, hb⟩
      go_wp2_with (fail)
      go_ret2
      exact ⟨rfl, HB.out.trans (hb.mono HB.out.size)⟩
end Go.Proofs.Ytcphcgkbjlgkiaa
