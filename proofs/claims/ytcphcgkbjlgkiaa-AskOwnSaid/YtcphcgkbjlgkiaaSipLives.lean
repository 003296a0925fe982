/- The first question of the laws of package sip, walked: it answers true. -/
import Derived.Test.YtcphcgkbjlgkiaaSum
import Derived.Test.YtcphcgkbjlgkiaaArrEq
namespace Go.Proofs.Ytcphcgkbjlgkiaa
open Go.RowKit

theorem sum_c (key s : ByteArray) (x y : Int) (hk : key.size ≤ 9223372036854775807) (hs : s.size ≤ 9223372036854775807) (hx : sumN key.data.toList s.data.toList = x) (hy : sumE key.data.toList s.data.toList = y) (w : World) :
    Calls Try.prog 15 #[.string key, .string s] w fun e w' => e = .returned (.tuple #[.int .u64 x, .int .i64 y]) ∧ Below w.heap.size w w' := by
  rw [← hx, ← hy]; exact Sum_any key s hk hs w
theorem sum_c1 (w : World) : Calls Try.prog 15 #[.string ⟨#[0, 1, 2, 3, 4, 5, 6, 7, 8, 9, 10, 11, 12, 13, 14, 15]⟩, .string ⟨#[0, 1, 2, 3, 4, 5, 6, 7, 8, 9, 10, 11, 12, 13, 14]⟩] w fun e w' => e = .returned (.tuple #[.int .u64 11613035633349379557, .int .i64 0]) ∧ Below w.heap.size w w' :=
  sum_c _ _ _ _ (by decide) (by decide) (by decide +kernel) (by decide +kernel) w
theorem sum_c2 (w : World) : Calls Try.prog 15 #[.string ⟨#[97, 98, 99]⟩, .string ⟨#[]⟩] w fun e w' => e = .returned (.tuple #[.int .u64 0, .int .i64 2]) ∧ Below w.heap.size w w' :=
  sum_c _ _ _ _ (by decide) (by decide) (by decide +kernel) (by decide +kernel) w
theorem value_c (w : World) : Calls Try.prog 31 #[.string ⟨#[1, 2, 0, 0, 0, 0, 0, 0]⟩] w fun e w' => e = .returned (.tuple #[.int .u64 513, .int .i64 0]) ∧ w = w' := by
  have h := value_any ⟨#[1, 2, 0, 0, 0, 0, 0, 0]⟩ (by decide) w
  rw [show valN ⟨#[1, 2, 0, 0, 0, 0, 0, 0]⟩ = 513 by decide +kernel, show valE ⟨#[1, 2, 0, 0, 0, 0, 0, 0]⟩ = 0 by decide +kernel] at h
  exact h
theorem bytes_c (w : World) : Calls Try.prog 13 #[.int .u64 513] w fun e w' => e = .returned (.string ⟨#[1, 2, 0, 0, 0, 0, 0, 0]⟩) ∧ Below w.heap.size w w' := by
  have h := bytes_any 513 (by decide) w
  rw [show (bytesL 513 8) = [1, 2, 0, 0, 0, 0, 0, 0] by decide +kernel] at h
  exact h
theorem round_c (w : World) : Calls Try.prog 46 #[.agg #[.int .u64 1, .int .u64 2, .int .u64 3, .int .u64 4], .int .i64 0] w fun e w' => e = .returned (.agg #[.int .u64 1, .int .u64 2, .int .u64 3, .int .u64 4]) ∧ Below w.heap.size w w' :=
  Round_k 0 (by omega) 1#64 2#64 3#64 4#64 w
end Go.Proofs.Ytcphcgkbjlgkiaa
