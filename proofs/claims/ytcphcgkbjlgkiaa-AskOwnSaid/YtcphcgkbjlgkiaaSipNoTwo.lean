/- The law SipNoTwo, walked: it returns true, for every state and number of rounds that may be, and nothing that was there has turned. -/
import Derived.Test.YtcphcgkbjlgkiaaSipLives
namespace Go.Proofs.Ytcphcgkbjlgkiaa
open Go.RowKit

theorem Round_o (a b c d : BitVec 64) (n : Int) (h0 : 0 ≤ n) (h1 : n ≤ 64) (w : World) : Calls Try.prog 46 #[.agg #[.int .u64 (U a), .int .u64 (U b), .int .u64 (U c), .int .u64 (U d)], .int .i64 n] w
    fun e w' => e = .returned (v4 (rnds (most n) (a, b, c, d))) ∧ Below w.heap.size w w' := Round_any a b c d n (by omega) w

def eq4 (u v : V4) : Bool := U u.1 == U v.1 && (U u.2.1 == U v.2.1 && (U u.2.2.1 == U v.2.2.1 && U u.2.2.2 == U v.2.2.2))
theorem eq4_iff (u v : V4) : eq4 u v = true ↔ u = v := by
  obtain ⟨a, b, c, d⟩ := u
  obtain ⟨a', b', c', d'⟩ := v
  simp only [eq4, Bool.and_eq_true, beq_iff_eq, Prod.mk.injEq]
  constructor
  · rintro ⟨h1, h2, h3, h4⟩
    exact ⟨U_inj h1, U_inj h2, U_inj h3, U_inj h4⟩
  · rintro ⟨rfl, rfl, rfl, rfl⟩
    exact ⟨rfl, rfl, rfl, rfl⟩
theorem run_eql_v4 (u v : V4) (w : World) : (binOp .eql 81 (.agg #[.int .u64 (U u.1), .int .u64 (U u.2.1), .int .u64 (U u.2.2.1), .int .u64 (U u.2.2.2)]) (.agg #[.int .u64 (U v.1), .int .u64 (U v.2.1), .int .u64 (U v.2.2.1), .int .u64 (U v.2.2.2)])).run Try.prog w = .ok (.bool (eq4 u v)) w :=
  run_eql_arr4 _ _ _ _ _ _ _ _ w

end Go.Proofs.Ytcphcgkbjlgkiaa
