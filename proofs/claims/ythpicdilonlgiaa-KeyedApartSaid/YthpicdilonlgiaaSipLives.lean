/- The first question of the laws of package sip, walked: it answers true. -/
import Derived.Test.YthpicdilonlgiaaSum
import Derived.Test.YthpicdilonlgiaaArrEq
namespace Go.Proofs.Ythpicdilonlgiaa
open Go.RowKit

theorem sum_c (key s : ByteArray) (x y : Int) (hk : key.size ≤ 9223372036854775807) (hs : s.size ≤ 9223372036854775807) (hx : sumN key.data.toList s.data.toList = x) (hy : sumE key.data.toList s.data.toList = y) (w : World) :
    Calls Try.prog 42 #[.string key, .string s] w fun e w' => e = .returned (.tuple #[.int .u64 x, .int .i64 y]) ∧ Below w.heap.size w w' := by
  rw [← hx, ← hy]; exact Sum_any key s hk hs w
theorem sum_c1 (w : World) : Calls Try.prog 42 #[.string ⟨#[0, 1, 2, 3, 4, 5, 6, 7, 8, 9, 10, 11, 12, 13, 14, 15]⟩, .string ⟨#[0, 1, 2, 3, 4, 5, 6, 7, 8, 9, 10, 11, 12, 13, 14]⟩] w fun e w' => e = .returned (.tuple #[.int .u64 11613035633349379557, .int .i64 0]) ∧ Below w.heap.size w w' :=
  sum_c _ _ _ _ (by decide) (by decide) (by decide +kernel) (by decide +kernel) w
theorem sum_c2 (w : World) : Calls Try.prog 42 #[.string ⟨#[97, 98, 99]⟩, .string ⟨#[]⟩] w fun e w' => e = .returned (.tuple #[.int .u64 0, .int .i64 2]) ∧ Below w.heap.size w w' :=
  sum_c _ _ _ _ (by decide) (by decide) (by decide +kernel) (by decide +kernel) w
theorem value_c (w : World) : Calls Try.prog 35 #[.string ⟨#[1, 2, 0, 0, 0, 0, 0, 0]⟩] w fun e w' => e = .returned (.tuple #[.int .u64 513, .int .i64 0]) ∧ w = w' := by
  have h := value_any ⟨#[1, 2, 0, 0, 0, 0, 0, 0]⟩ (by decide) w
  rw [show valN ⟨#[1, 2, 0, 0, 0, 0, 0, 0]⟩ = 513 by decide +kernel, show valE ⟨#[1, 2, 0, 0, 0, 0, 0, 0]⟩ = 0 by decide +kernel] at h
  exact h
theorem bytes_c (w : World) : Calls Try.prog 40 #[.int .u64 513] w fun e w' => e = .returned (.string ⟨#[1, 2, 0, 0, 0, 0, 0, 0]⟩) ∧ Below w.heap.size w w' := by
  have h := bytes_any 513 (by decide) w
  rw [show (bytesL 513 8) = [1, 2, 0, 0, 0, 0, 0, 0] by decide +kernel] at h
  exact h
theorem round_c (w : World) : Calls Try.prog 38 #[.agg #[.int .u64 1, .int .u64 2, .int .u64 3, .int .u64 4], .int .i64 0] w fun e w' => e = .returned (.agg #[.int .u64 1, .int .u64 2, .int .u64 3, .int .u64 4]) ∧ Below w.heap.size w w' :=
  Round_k 0 (by omega) 1#64 2#64 3#64 4#64 w
theorem words_c (w : World) : Calls Try.prog 44 #[.string ⟨#[97]⟩] w fun e w' => ∃ g cap, e = .returned (.slice (some ⟨g, 0, none⟩) 1 cap) ∧ g < w'.heap.size ∧ w'.cell? ⟨g, 0, none⟩ = some (.int .u64 72057594037928033) ∧ Below w.heap.size w w' := by
  refine (Words_any ⟨#[97]⟩ (by decide) w).mono ?_
  rintro e w' ⟨v, rfl, hown, hb⟩
  have e1 : wordsB (⟨#[97]⟩ : ByteArray).data.toList = [72057594037928033#64] := by decide +kernel
  rw [e1] at hown
  obtain ⟨g, cap, rfl, _, hlt⟩ := hown.form (by simp)
  exact ⟨g, cap, rfl, hlt, hown.cells (g := g) rfl 0 _ (by rfl), hb⟩

set_option maxRecDepth 100000 in
set_option maxHeartbeats 1000000 in
theorem lives08 (w : World) : Calls Try.prog 37 #[] w fun e w' => e = .returned (.bool true) ∧ Below w.heap.size w w' := by
  have he := run_eql_arr4
  go_enter Try.func37, Try.ntmps37
  go_wp2_with (fail)
  refine (sum_c1 _).mono ?_
  rintro e w1 ⟨rfl, hb1⟩
  go_wp2_with (fail)
  refine (sum_c2 _).mono ?_
  rintro e w2 ⟨rfl, hb2⟩
  go_wp2_with (fail)
  refine (value_c _).mono ?_
  rintro e w2' ⟨rfl, rfl⟩
  go_wp2_with (fail)
  refine (words_c _).mono ?_
  rintro e w3 ⟨g, cap, rfl, hg, hc, hb3⟩
  go_wp2_with (fail)
  refine (bytes_c _).mono ?_
  rintro e w4 ⟨rfl, hb4⟩
  have hc4 := (hb4.cell (p := ⟨g, 0, none⟩) hg).trans hc
  clear hc
  go_wp2_with (fail)
  refine (round_c _).mono ?_
  rintro e w5 ⟨rfl, hb5⟩
  go_wp2_with (fail)
  go_ret
  exact ⟨rfl, ((((hb1.trans (hb2.mono hb1.size)).trans (hb3.mono (Nat.le_trans hb1.size hb2.size))).trans (hb4.mono (Nat.le_trans hb1.size (Nat.le_trans hb2.size hb3.size)))).trans (hb5.mono (Nat.le_trans hb1.size (Nat.le_trans hb2.size (Nat.le_trans hb3.size hb4.size)))))⟩
end Go.Proofs.Ythpicdilonlgiaa
