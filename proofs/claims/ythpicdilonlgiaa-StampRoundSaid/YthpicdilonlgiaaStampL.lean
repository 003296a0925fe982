/- The three laws of package stamp, walked: each returns true, for every argument that may be, and nothing that was there has turned. -/
import Derived.Test.YthpicdilonlgiaaStamp
namespace Go.Proofs.Ythpicdilonlgiaa
open Go.RowKit

theorem lives10 (w : World) : Calls Try.prog 22 #[] w fun e w' => e = .returned (.bool true) ∧ w = w' := by
  have k1 : s32 (-4294967290) = 6 := by decide
  have k2 : s32 (-2147483648) = -2147483648 := by decide
  have k3 : freshN 3600 0 = 0 := by decide
  have k4 : freshN 3601 0 = 10 := by decide
  have k5 : freshN 0 300 = 0 := by decide
  have k6 : freshN 0 301 = 10 := by decide
  have k7 : s32 1801 = 1801 := by decide
  have k8 : s32 1800 = 1800 := by decide
  have k9 : s32 (-4294967295) = 1 := by decide
  have k10 : s32 2147483648 = -2147483648 := by decide
  go_enter Try.func22, Try.ntmps22
  go_wp2_with (first
    | (go_at_call 23; refine (of_any _ _).mono ?_; rintro e w' ⟨rfl, rfl⟩)
    | (go_at_call 25; refine (age_any _ _ _).mono ?_; rintro e w' ⟨rfl, rfl⟩)
    | (go_at_call 27; refine (fresh_any _ _ _).mono ?_; rintro e w' ⟨rfl, rfl⟩)
    | (go_at_call 29; refine (renew_any _ _ _).mono ?_; rintro e w' ⟨rfl, rfl⟩)
    | (go_at_call 31; refine (less_any _ _ _).mono ?_; rintro e w' ⟨rfl, rfl⟩)
    | (go_at_call 33; refine (add_any _ _ _).mono ?_; rintro e w' ⟨rfl, rfl⟩))
  all_goals go_ret
  all_goals exact ⟨rfl, rfl⟩

theorem stampTells_any (t a b n : Int) (ha : 0 ≤ a ∧ a ≤ 4294967295) (hb : 0 ≤ b ∧ b ≤ 4294967295) (w : World) :
    Calls Try.prog 3 #[.int .i64 t, .int .u32 a, .int .u32 b, .int .i64 n] w fun e w' => e = .returned (.bool true) ∧ w = w' := by
  go_enter Try.func3, Try.ntmps3
  go_wp2_with (first
    | (go_at_call 22; refine (lives10 _).mono ?_; rintro e w' ⟨rfl, rfl⟩)
    | (go_at_call 23; refine (of_any _ _).mono ?_; rintro e w' ⟨rfl, rfl⟩)
    | (go_at_call 24; refine (rof_any _ _).mono ?_; rintro e w' ⟨rfl, rfl⟩)
    | (go_at_call 25; refine (age_any _ _ _).mono ?_; rintro e w' ⟨rfl, rfl⟩)
    | (go_at_call 26; refine (rage_any _ _ ha.1 ha.2 _).mono ?_; rintro e w' ⟨rfl, rfl⟩)
    | (go_at_call 27; refine (fresh_any _ _ _).mono ?_; rintro e w' ⟨rfl, rfl⟩)
    | (go_at_call 28; refine (rfresh_any _ _ ha.1 ha.2 _).mono ?_; rintro e w' ⟨rfl, rfl⟩)
    | (go_at_call 29; refine (renew_any _ _ _).mono ?_; rintro e w' ⟨rfl, rfl⟩)
    | (go_at_call 30; refine (rrenew_any _ _ ha.1 ha.2 _).mono ?_; rintro e w' ⟨rfl, rfl⟩)
    | (go_at_call 31; refine (less_any _ _ _).mono ?_; rintro e w' ⟨rfl, rfl⟩)
    | (go_at_call 32; refine (rless_any _ _ ha.1 ha.2 hb.1 hb.2 _).mono ?_; rintro e w' ⟨rfl, rfl⟩)
    | (go_at_call 33; refine (add_any _ _ _).mono ?_; rintro e w' ⟨rfl, rfl⟩)
    | (go_at_call 34; refine (radd_any _ _ ha.1 ha.2 _).mono ?_; rintro e w' ⟨rfl, rfl⟩))
  all_goals go_ret
  all_goals exact ⟨rfl, rfl⟩

theorem stampRound_any (t n : Int) (hn : -2147483648 ≤ n ∧ n ≤ 2147483647) (w : World) :
    Calls Try.prog 4 #[.int .i64 t, .int .i32 n] w fun e w' => e = .returned (.bool true) ∧ w = w' := by
  obtain ⟨n1, n2⟩ := hn
  by_cases g : t > 4611686018427387904 ∨ t < -4611686018427387904
  · go_enter Try.func4, Try.ntmps4
    go_wp2_with (go_at_call 22; refine (lives10 _).mono ?_; rintro e w' ⟨rfl, rfl⟩)
    all_goals go_ret
    all_goals exact ⟨rfl, rfl⟩
  · have g1 : t ≤ 4611686018427387904 := by omega
    have g2 : -4611686018427387904 ≤ t := by omega
    clear g
    have hx : s32 (t + n - t % 4294967296) = n := by unfold s32; split <;> omega
    have hf : (-300 ≤ n ∧ n ≤ 3600 ∧ freshN (t + n) (t % 4294967296) = 0) ∨ (n < -300 ∧ freshN (t + n) (t % 4294967296) = 10) ∨ (3600 < n ∧ freshN (t + n) (t % 4294967296) = 10) := by
      unfold freshN; rw [hx]; split <;> omega
    rcases hf with ⟨f1, f2, f3⟩ | ⟨f1, f3⟩ | ⟨f1, f3⟩
    all_goals
      go_enter Try.func4, Try.ntmps4
      go_wp2_with (first
        | (go_at_call 22; refine (lives10 _).mono ?_; rintro e w' ⟨rfl, rfl⟩)
        | (go_at_call 23; refine (of_any _ _).mono ?_; rintro e w' ⟨rfl, rfl⟩)
        | (go_at_call 25; refine (age_any _ _ _).mono ?_; rintro e w' ⟨rfl, rfl⟩)
        | (go_at_call 27; refine (fresh_any _ _ _).mono ?_; rintro e w' ⟨rfl, rfl⟩)
        | (go_at_call 29; refine (renew_any _ _ _).mono ?_; rintro e w' ⟨rfl, rfl⟩)
        | (go_at_call 33; refine (add_any _ _ _).mono ?_; rintro e w' ⟨rfl, rfl⟩))
      all_goals go_ret
    all_goals exact ⟨ret_b (by simp; try omega), rfl⟩

set_option maxHeartbeats 1000000 in
theorem stampLess_any (a b n : Int) (ha : 0 ≤ a ∧ a ≤ 4294967295) (hb : 0 ≤ b ∧ b ≤ 4294967295) (w : World) :
    Calls Try.prog 5 #[.int .u32 a, .int .u32 b, .int .i64 n] w fun e w' => e = .returned (.bool true) ∧ Below w.heap.size w w' := by
  obtain ⟨a1, a2⟩ := ha
  obtain ⟨b1, b2⟩ := hb
  have hs : s32 ((b + n) % 4294967296 - (a + n) % 4294967296) = s32 (b - a) := by unfold s32; rw [show ((b + n) % 4294967296 - (a + n) % 4294967296) % 4294967296 = (b - a) % 4294967296 by omega]
  have hc : (decide (0 < s32 (b - a)) = true ∧ decide (0 < s32 (a - b)) = false ∧ (a == b) = false ∧ ((a - b) % 4294967296 == 2147483648) = false) ∨
      (decide (0 < s32 (b - a)) = false ∧ decide (0 < s32 (a - b)) = true ∧ (a == b) = false ∧ ((a - b) % 4294967296 == 2147483648) = false) ∨
      (decide (0 < s32 (b - a)) = false ∧ decide (0 < s32 (a - b)) = false ∧ (a == b) = true ∧ ((a - b) % 4294967296 == 2147483648) = false) ∨
      (decide (0 < s32 (b - a)) = false ∧ decide (0 < s32 (a - b)) = false ∧ (a == b) = false ∧ ((a - b) % 4294967296 == 2147483648) = true) := by
    simp only [decide_eq_true_eq, decide_eq_false_iff_not, beq_iff_eq, beq_eq_false_iff_ne, ne_eq]
    unfold s32
    split <;> split <;> omega
  rcases hc with ⟨c1, c2, c3, c4⟩ | ⟨c1, c2, c3, c4⟩ | ⟨c1, c2, c3, c4⟩ | ⟨c1, c2, c3, c4⟩
  all_goals
    go_enter Try.func5, Try.ntmps5
    go_wp2_with (first
      | (go_at_call 22; refine (lives10 _).mono ?_; rintro e w' ⟨rfl, rfl⟩)
      | (go_at_call 31; refine (less_any _ _ _).mono ?_; rintro e w' ⟨rfl, rfl⟩)
      | (go_at_call 33; refine (add_any _ _ _).mono ?_; rintro e w' ⟨rfl, rfl⟩))
    refine wp_loop_rounds 5 ?_
    repeat
      rw [rounds_succ]
      go_wp2_with (first
        | (go_at_call 31; refine (less_any _ _ _).mono ?_; rintro e w' ⟨rfl, rfl⟩)
        | (go_at_call 33; refine (add_any _ _ _).mono ?_; rintro e w' ⟨rfl, rfl⟩))
    go_ret
    exact ⟨ret_b (by simp), (Below.refl _ _).alloc (Nat.le_refl _) _⟩

theorem stampTells_law (t a b n : Int) (_ht : -9223372036854775808 ≤ t ∧ t ≤ 9223372036854775807) (ha : 0 ≤ a ∧ a ≤ 4294967295) (hb : 0 ≤ b ∧ b ≤ 4294967295) (_hn : -9223372036854775808 ≤ n ∧ n ≤ 9223372036854775807) (w : World) :
    Calls Try.prog 3 #[.int .i64 t, .int .u32 a, .int .u32 b, .int .i64 n] w fun e w' => e = .returned (.bool true) ∧ Below w.heap.size w w' :=
  (stampTells_any t a b n ha hb w).mono fun _ _ ⟨he, hw⟩ => ⟨he, below_eq hw⟩
theorem stampRound_law (t n : Int) (_ht : -9223372036854775808 ≤ t ∧ t ≤ 9223372036854775807) (hn : -2147483648 ≤ n ∧ n ≤ 2147483647) (w : World) :
    Calls Try.prog 4 #[.int .i64 t, .int .i32 n] w fun e w' => e = .returned (.bool true) ∧ Below w.heap.size w w' :=
  (stampRound_any t n hn w).mono fun _ _ ⟨he, hw⟩ => ⟨he, below_eq hw⟩
theorem stampLess_law (a b n : Int) (ha : 0 ≤ a ∧ a ≤ 4294967295) (hb : 0 ≤ b ∧ b ≤ 4294967295) (_hn : -9223372036854775808 ≤ n ∧ n ≤ 9223372036854775807) (w : World) :
    Calls Try.prog 5 #[.int .u32 a, .int .u32 b, .int .i64 n] w fun e w' => e = .returned (.bool true) ∧ Below w.heap.size w w' :=
  stampLess_any a b n ha hb w
end Go.Proofs.Ythpicdilonlgiaa
