/- '==' between two arrays of four words: it answers whether they are one. -/
import Derived.Test.YtcphcgkbjlgkiaaSip
import Derived.ChangeKeysEq
import Derived.Laws.StructEq
namespace Go.Proofs.Ytcphcgkbjlgkiaa
open Go.RowKit

theorem cells_u64 : Try.prog.cellsOf 29 = 1 := by kernel_rfl
theorem run_eql_arr4 (a b c d a' b' c' d' : Int) (w : World) :
    (binOp .eql 81 (.agg #[.int .u64 a, .int .u64 b, .int .u64 c, .int .u64 d]) (.agg #[.int .u64 a', .int .u64 b', .int .u64 c', .int .u64 d'])).run Try.prog w = .ok (.bool (a == a' && (b == b' && (c == c' && d == d')))) w := by
  obtain ⟨i0, hi, hz0, hz1, hz2⟩ := info_parts (show (Try.prog.info? 29).map (fun i => (i.zero, i.size, i.bytes)) = some (some (.int .u64 0), 1, 8) by kernel_rfl)
  have hr : List.range 4 = [0, 1, 2, 3] := rfl
  rw [run_eql_struct, run_equalIn_array w 9999 _ _ Try.underlying81 hi, cells_u64, hr]
  simp only [Op.eqItems]
  simp [part, go_sem]
  by_cases h0 : a = a' <;> by_cases h1 : b = b' <;> by_cases h2 : c = c' <;> by_cases h3 : d = d' <;> simp [h0, h1, h2, h3]

/-- What Below says of cells and marks, as the walk takes it. -/
theorem bcell {W w1 : World} (hb : Below W.heap.size W w1) : (∀ b o, b < W.heap.size → w1.cell? ⟨b, o, none⟩ = W.cell? ⟨b, o, none⟩) ∧ (∀ b o, b < W.heap.size → w1.frozen? ⟨b, o, none⟩ = W.frozen? ⟨b, o, none⟩) :=
  ⟨fun b o h => hb.cell (p := ⟨b, o, none⟩) h, fun b o h => hb.frozen (p := ⟨b, o, none⟩) h⟩
end Go.Proofs.Ytcphcgkbjlgkiaa
