/- The walks of package stamp and of its reference: what each function answers, for every argument and in whatever world. -/
import Derived.Test.YtcphcgkbjlgkiaaRet
import Derived.Test.YtcphcgkbjlgkiaaBase
import Derived.Test.YtcphcgkbjlgkiaaChecked
import Derived.WalkSpells
import Derived.WalkLawsBesides
import Derived.Outline
import Derived.Handy
namespace Go.Proofs.Ytcphcgkbjlgkiaa
open Go.RowKit

/-- The one of the numbers that differ from x by a multiple of 2^32 that a signed number of 32 bits can be. -/
def s32 (x : Int) : Int := if x % 4294967296 < 2147483648 then x % 4294967296 else x % 4294967296 - 4294967296

theorem s32_wrap (x : Int) : wrap64 (wrap32 (x % 4294967296)) = s32 x := by unfold s32 wrap64 wrap32; split <;> omega
theorem s32_bd (x : Int) : -2147483648 ≤ s32 x ∧ s32 x ≤ 2147483647 := by unfold s32; split <;> omega

theorem of_any (t : Int) (w : World) : Calls Try.prog 63 #[.int .i64 t] w fun e w' => e = .returned (.int .u32 (t % 4294967296)) ∧ w = w' := by
  go_enter Try.func63, Try.ntmps63
  go_wp2
  go_ret
  exact ⟨rfl, rfl⟩

theorem age_any (t s : Int) (w : World) : Calls Try.prog 97 #[.int .i64 t, .int .u32 s] w fun e w' => e = .returned (.int .i64 (s32 (t - s))) ∧ w = w' := by
  go_enter Try.func97, Try.ntmps97
  go_wp2_with (go_at_call 63; refine (of_any _ _).mono ?_; rintro e w' ⟨rfl, rfl⟩)
  go_ret
  exact ⟨ret_i (s32_wrap _), rfl⟩

def freshN (t s : Int) : Int := if s32 (t - s) < -300 ∨ 3600 < s32 (t - s) then 10 else 0
theorem fresh_any (t s : Int) (w : World) : Calls Try.prog 69 #[.int .i64 t, .int .u32 s] w fun e w' => e = .returned (.int .i64 (freshN t s)) ∧ w = w' := by
  have hb := s32_bd (t - s)
  go_enter Try.func69, Try.ntmps69
  go_wp2_with (go_at_call 97; refine (age_any _ _ _).mono ?_; rintro e w' ⟨rfl, rfl⟩)
  all_goals go_ret
  all_goals exact ⟨ret_i (by unfold freshN; split <;> omega), rfl⟩

theorem renew_any (t s : Int) (w : World) : Calls Try.prog 70 #[.int .i64 t, .int .u32 s] w fun e w' => e = .returned (.bool (decide (1800 < s32 (t - s)))) ∧ w = w' := by
  go_enter Try.func70, Try.ntmps70
  go_wp2_with (go_at_call 97; refine (age_any _ _ _).mono ?_; rintro e w' ⟨rfl, rfl⟩)
  all_goals go_ret
  all_goals exact ⟨rfl, rfl⟩

theorem add_any (s n : Int) (w : World) : Calls Try.prog 14 #[.int .u32 s, .int .i64 n] w fun e w' => e = .returned (.int .u32 ((s + n) % 4294967296)) ∧ w = w' := by
  go_enter Try.func14, Try.ntmps14
  go_wp2
  go_ret
  exact ⟨ret_i (by omega), rfl⟩

/-! The reference -/
theorem tm_eq (n : Int) : (0 ≤ n.tmod 4294967296 ∧ n.tmod 4294967296 = n % 4294967296) ∨ (n.tmod 4294967296 < 0 ∧ n.tmod 4294967296 + 4294967296 = n % 4294967296 ∧ 0 ≤ n % 4294967296 ∧ n % 4294967296 < 4294967296) := by
  rcases Int.le_total 0 n with h | h
  · left
    rw [Int.tmod_eq_emod_of_nonneg h]
    omega
  · have e : n.tmod 4294967296 = -((-n) % 4294967296) := by
      have h1 : (-n).tmod 4294967296 = (-n) % 4294967296 := Int.tmod_eq_emod_of_nonneg (by omega)
      rw [Int.neg_tmod] at h1
      omega
    rw [e]
    omega
theorem rest_any (n : Int) (w : World) : Calls Try.prog 92 #[.int .i64 n] w fun e w' => e = .returned (.int .i64 (n % 4294967296)) ∧ w = w' := by
  go_enter Try.func92, Try.ntmps92
  go_wp2
  all_goals go_ret
  all_goals
    rcases tm_eq n with ⟨h1, h2⟩ | ⟨h1, h2, h3, h4⟩
    all_goals first | (exfalso; omega) | exact ⟨ret_i (by first | omega | (unfold wrap64; omega)), rfl⟩

theorem rof_any (t : Int) (w : World) : Calls Try.prog 65 #[.int .i64 t] w fun e w' => e = .returned (.int .u32 (t % 4294967296)) ∧ w = w' := by
  go_enter Try.func65, Try.ntmps65
  go_wp2_with (go_at_call 92; refine (rest_any _ _).mono ?_; rintro e w' ⟨rfl, rfl⟩)
  go_ret
  exact ⟨ret_i (by omega), rfl⟩

theorem rage_any (t s : Int) (h0 : 0 ≤ s) (h1 : s ≤ 4294967295) (w : World) : Calls Try.prog 98 #[.int .i64 t, .int .u32 s] w fun e w' => e = .returned (.int .i64 (s32 (t - s))) ∧ w = w' := by
  have h2 : 0 ≤ t % 4294967296 := by omega
  have h3 : t % 4294967296 ≤ 4294967295 := by omega
  have h4 : 0 ≤ (t % 4294967296 - s) % 4294967296 := by omega
  have h5 : (t % 4294967296 - s) % 4294967296 ≤ 4294967295 := by omega
  go_enter Try.func98, Try.ntmps98
  go_wp2_with (go_at_call 92; refine (rest_any _ _).mono ?_; rintro e w' ⟨rfl, rfl⟩)
  all_goals go_ret
  all_goals exact ⟨ret_i (by unfold s32; split <;> omega), rfl⟩

theorem rfresh_any (t s : Int) (h0 : 0 ≤ s) (h1 : s ≤ 4294967295) (w : World) : Calls Try.prog 71 #[.int .i64 t, .int .u32 s] w fun e w' => e = .returned (.int .i64 (freshN t s)) ∧ w = w' := by
  have hb := s32_bd (t - s)
  go_enter Try.func71, Try.ntmps71
  go_wp2_with (go_at_call 98; refine (rage_any _ _ h0 h1 _).mono ?_; rintro e w' ⟨rfl, rfl⟩)
  all_goals go_ret
  all_goals exact ⟨ret_i (by unfold freshN; split <;> omega), rfl⟩

theorem rrenew_any (t s : Int) (h0 : 0 ≤ s) (h1 : s ≤ 4294967295) (w : World) : Calls Try.prog 72 #[.int .i64 t, .int .u32 s] w fun e w' => e = .returned (.bool (decide (1800 < s32 (t - s)))) ∧ w = w' := by
  go_enter Try.func72, Try.ntmps72
  go_wp2_with (go_at_call 98; refine (rage_any _ _ h0 h1 _).mono ?_; rintro e w' ⟨rfl, rfl⟩)
  all_goals go_ret
  all_goals exact ⟨rfl, rfl⟩

end Go.Proofs.Ytcphcgkbjlgkiaa
