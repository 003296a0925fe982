/- The walk of the reference's Same at two tables that read alike; Small. -/
import Derived.Test.YtcphcgkbjlgkiaaKeyedPutR
import Derived.Laws.StructEq
namespace Go.Proofs.Ytcphcgkbjlgkiaa
open Go.RowKit Go.Lib

theorem neq_sum (e : Entry) (w : World) : (binOp .neq 88 (.agg #[.string e.key, .string e.text, .int .u64 e.n]) (.agg #[.string e.key, .string e.text, .int .u64 e.n])).run Try.prog w = .ok (.bool false) w := by
  have hS : Try.prog.underlying 88 = some (.struct (Try.prog.fieldsOf 88)) := by kernel_rfl
  have hp : Try.prog.stoodInHeld 88 = false := by kernel_rfl
  have u1 := Try.underlying9
  have u2 := Try.underlying29
  have a1 := Try.isAgg9
  have a2 := Try.isAgg29
  have z1 := Try.sizeOf9
  have z2 := Try.sizeOf29
  rw [run_neq_struct, show (10000 : Nat) = 9999 + 1 from rfl, run_equalIn_agg w 9999 _ _ _ hS hp]
  simp only [Program.fieldsOf, Try.underlying88]
  go_simp

theorem small_any (i : Bool) (xs : List Entry) (A : Option Addr) (c : Nat) (w : World) (hbig : xs.length ≤ 9223372036854775807) :
    Calls Try.prog 20 #[.agg #[.bool i, .slice A xs.length c]] w fun e w' => e = .returned (.int .i64 (if 60 < xs.length then 0 else 1)) ∧ Below w.heap.size w w' := by
  by_cases h : 60 < xs.length
  · have hi : (60 : Int) < (xs.length : Int) := by omega
    rw [if_pos h]
    clear h
    go_enter Try.func20, Try.ntmps20
    go_wp2_with (fail)
    go_ret
    exact ⟨rfl, (Below.refl _ _).alloc (Nat.le_refl _) _⟩
  · have hi : ¬ (60 : Int) < (xs.length : Int) := by omega
    rw [if_neg h]
    clear h
    go_enter Try.func20, Try.ntmps20
    go_wp2_with (fail)
    go_ret
    exact ⟨rfl, (Below.refl _ _).alloc (Nat.le_refl _) _⟩
end Go.Proofs.Ytcphcgkbjlgkiaa
