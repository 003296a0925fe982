/- '==' between two arrays of four words: it answers whether they are one. The first question of the laws of package sip, walked: it answers true. The law SipNoTwo, walked: it returns true, for every state and number of rounds that may be, and nothing that was there has turned. -/
import Derived.Test.YtcphcgkbjlgkiaaSip
import Derived.ChangeKeysEq
import Derived.Laws.StructEq
import Derived.Test.YtcphcgkbjlgkiaaSum
namespace Go.Proofs.Ytcphcgkbjlgkiaa
open Go.RowKit

theorem cells_u64 : Try.prog.cellsOf 29 = 1 := by kernel_rfl
theorem run_eql_arr4 (a b c d a' b' c' d' : Int) (w : World) :
    (binOp .eql 81 (.agg #[.int .u64 a, .int .u64 b, .int .u64 c, .int .u64 d]) (.agg #[.int .u64 a', .int .u64 b', .int .u64 c', .int .u64 d'])).run Try.prog w = .ok (.bool (a == a' && (b == b' && (c == c' && d == d')))) w := by
  obtain ⟨i0, hi, hz0, hz1, hz2⟩ := info_parts (show (Try.prog.info? 29).map (fun i => (i.zero, i.size, i.bytes)) = some (some (.int .u64 0), 1, 8) by kernel_rfl)
  have hr : List.range 4 = [0, 1, 2, 3] := rfl
  rw [run_eql_struct, run_equalIn_array w 9999 _ _ Try.underlying81 hi, cells_u64, hr]
  simp only [Op.eqItems]
  simp [part, go_sem]
  by_cases h0 : a = a' <;> by_cases h1 : b = b' <;> by_cases h2 : c = c' <;> by_cases h3 : d = d' <;> simp [h0, h1, h2, h3]

/-- What Below says of cells and marks, as the walk takes it. -/
theorem bcell {W w1 : World} (hb : Below W.heap.size W w1) : (∀ b o, b < W.heap.size → w1.cell? ⟨b, o, none⟩ = W.cell? ⟨b, o, none⟩) ∧ (∀ b o, b < W.heap.size → w1.frozen? ⟨b, o, none⟩ = W.frozen? ⟨b, o, none⟩) :=
  ⟨fun b o h => hb.cell (p := ⟨b, o, none⟩) h, fun b o h => hb.frozen (p := ⟨b, o, none⟩) h⟩
end Go.Proofs.Ytcphcgkbjlgkiaa

namespace Go.Proofs.Ytcphcgkbjlgkiaa
open Go.RowKit

theorem sum_c (key s : ByteArray) (x y : Int) (hk : key.size ≤ 9223372036854775807) (hs : s.size ≤ 9223372036854775807) (hx : sumN key.data.toList s.data.toList = x) (hy : sumE key.data.toList s.data.toList = y) (w : World) :
    Calls Try.prog 15 #[.string key, .string s] w fun e w' => e = .returned (.tuple #[.int .u64 x, .int .i64 y]) ∧ Below w.heap.size w w' := by
  rw [← hx, ← hy]; exact Sum_any key s hk hs w
theorem sum_c1 (w : World) : Calls Try.prog 15 #[.string ⟨#[0, 1, 2, 3, 4, 5, 6, 7, 8, 9, 10, 11, 12, 13, 14, 15]⟩, .string ⟨#[0, 1, 2, 3, 4, 5, 6, 7, 8, 9, 10, 11, 12, 13, 14]⟩] w fun e w' => e = .returned (.tuple #[.int .u64 11613035633349379557, .int .i64 0]) ∧ Below w.heap.size w w' :=
  sum_c _ _ _ _ (by decide) (by decide) (by decide +kernel) (by decide +kernel) w
theorem sum_c2 (w : World) : Calls Try.prog 15 #[.string ⟨#[97, 98, 99]⟩, .string ⟨#[]⟩] w fun e w' => e = .returned (.tuple #[.int .u64 0, .int .i64 2]) ∧ Below w.heap.size w w' :=
  sum_c _ _ _ _ (by decide) (by decide) (by decide +kernel) (by decide +kernel) w
theorem value_c (w : World) : Calls Try.prog 31 #[.string ⟨#[1, 2, 0, 0, 0, 0, 0, 0]⟩] w fun e w' => e = .returned (.tuple #[.int .u64 513, .int .i64 0]) ∧ w = w' := by
  have h := value_any ⟨#[1, 2, 0, 0, 0, 0, 0, 0]⟩ (by decide) w
  rw [show valN ⟨#[1, 2, 0, 0, 0, 0, 0, 0]⟩ = 513 by decide +kernel, show valE ⟨#[1, 2, 0, 0, 0, 0, 0, 0]⟩ = 0 by decide +kernel] at h
  exact h
theorem bytes_c (w : World) : Calls Try.prog 13 #[.int .u64 513] w fun e w' => e = .returned (.string ⟨#[1, 2, 0, 0, 0, 0, 0, 0]⟩) ∧ Below w.heap.size w w' := by
  have h := bytes_any 513 (by decide) w
  rw [show (bytesL 513 8) = [1, 2, 0, 0, 0, 0, 0, 0] by decide +kernel] at h
  exact h
theorem round_c (w : World) : Calls Try.prog 46 #[.agg #[.int .u64 1, .int .u64 2, .int .u64 3, .int .u64 4], .int .i64 0] w fun e w' => e = .returned (.agg #[.int .u64 1, .int .u64 2, .int .u64 3, .int .u64 4]) ∧ Below w.heap.size w w' :=
  Round_k 0 (by omega) 1#64 2#64 3#64 4#64 w
end Go.Proofs.Ytcphcgkbjlgkiaa

namespace Go.Proofs.Ytcphcgkbjlgkiaa
open Go.RowKit

theorem Round_o (a b c d : BitVec 64) (n : Int) (h0 : 0 ≤ n) (h1 : n ≤ 64) (w : World) : Calls Try.prog 46 #[.agg #[.int .u64 (U a), .int .u64 (U b), .int .u64 (U c), .int .u64 (U d)], .int .i64 n] w
    fun e w' => e = .returned (v4 (rnds (most n) (a, b, c, d))) ∧ Below w.heap.size w w' := Round_any a b c d n (by omega) w

def eq4 (u v : V4) : Bool := U u.1 == U v.1 && (U u.2.1 == U v.2.1 && (U u.2.2.1 == U v.2.2.1 && U u.2.2.2 == U v.2.2.2))
theorem eq4_iff (u v : V4) : eq4 u v = true ↔ u = v := by
  obtain ⟨a, b, c, d⟩ := u
  obtain ⟨a', b', c', d'⟩ := v
  simp only [eq4, Bool.and_eq_true, beq_iff_eq, Prod.mk.injEq]
  constructor
  · rintro ⟨h1, h2, h3, h4⟩
    exact ⟨U_inj h1, U_inj h2, U_inj h3, U_inj h4⟩
  · rintro ⟨rfl, rfl, rfl, rfl⟩
    exact ⟨rfl, rfl, rfl, rfl⟩
theorem run_eql_v4 (u v : V4) (w : World) : (binOp .eql 81 (.agg #[.int .u64 (U u.1), .int .u64 (U u.2.1), .int .u64 (U u.2.2.1), .int .u64 (U u.2.2.2)]) (.agg #[.int .u64 (U v.1), .int .u64 (U v.2.1), .int .u64 (U v.2.2.1), .int .u64 (U v.2.2.2)])).run Try.prog w = .ok (.bool (eq4 u v)) w :=
  run_eql_arr4 _ _ _ _ _ _ _ _ w

end Go.Proofs.Ytcphcgkbjlgkiaa
