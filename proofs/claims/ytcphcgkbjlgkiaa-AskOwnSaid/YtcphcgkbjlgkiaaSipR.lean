/- The walks of package sip's Round and of its reference's. -/
import Derived.Test.YtcphcgkbjlgkiaaSip
namespace Go.Proofs.Ytcphcgkbjlgkiaa
open Go.RowKit

theorem Two.below {w0 w w' : World} {x y : Array Value} (h : Two w0 w x y) (hb : Below w.heap.size w w') : Two w0 w' x y :=
  ⟨h.1.below hb h.1.lt, h.2.1.below hb h.2.1.lt, h.2.2.trans (hb.mono (h.2.2.size))⟩
def arr (v : V4) : Array Value := st4 v.1 v.2.1 v.2.2.1 v.2.2.2
/-- How many rounds are done, if n are asked for. -/
def most (n : Int) : Nat := (min n 64).toNat

set_option maxHeartbeats 1000000 in
theorem Round_ref (a b c d : BitVec 64) (n : Int) (hn : -9223372036854775808 ≤ n ∧ n ≤ 9223372036854775807) (w : World) : Calls Try.prog 108 #[.agg #[.int .u64 (U a), .int .u64 (U b), .int .u64 (U c), .int .u64 (U d)], .int .i64 n] w
    fun e w' => e = .returned (v4 (rnds (most n) (a, b, c, d))) ∧ Below w.heap.size w w' := by
  obtain ⟨hn1, hn2⟩ := hn
  go_enter Try.func108, Try.ntmps108
  go_wp2
  go_loopg [5] (most n) (fun g i wr => ∃ k : Nat, g + k = most n ∧ i = .int .i64 (k : Int) ∧ Two w wr (arr (rnds k (a, b, c, d))) ze4)
  case atStart =>
    exact ⟨0, by omega, rfl, (Blk.new w _ _).alloc _, by have := Blk.new (w.alloc (.cells #[.int .u64 (U a), .int .u64 (U b), .int .u64 (U c), .int .u64 (U d)] 81)) 81 ze4; rw [World.size_alloc] at this; exact this, ((Below.refl _ _).alloc (Nat.le_refl _) _).alloc (by simp) _⟩
  case round =>
    obtain ⟨k, hk, rfl, hT⟩ := hrel
    obtain ⟨c0, c1, c2, c3, f0, f1, f2, f3⟩ := Two.cells hT
    obtain ⟨z0, z1, z2, z3, g0, g1, g2, g3⟩ := Two.zeros hT
    by_cases hlt : k < most n
    · have h1 : (k : Int) < n := by unfold most at hlt; omega
      have h2 : (k : Int) < 64 := by unfold most at hlt; omega
      go_wp2_with (go_at_call 111; refine (round_ref _ _ _ _ _).mono ?_; rintro e w1 ⟨rfl, hb⟩; (have hT1 := hT.below hb); clear c0 c1 c2 c3 f0 f1 f2 f3 z0 z1 z2 z3 g0 g1 g2 g3; obtain ⟨c0, c1, c2, c3, f0, f1, f2, f3⟩ := Two.cells hT1)
      go_roundg (most n - (k + 1))
      case measure => omega
      case rel =>
        refine ⟨k + 1, by omega, by go_num, ?_⟩
        exact ((((hT1.set_ 0 _).set_ 1 _).set_ 2 _).set_ 3 _)
    · have e : k = most n := by omega
      subst e
      have hd : decide ((most n : Int) < n) = false ∨ (decide ((most n : Int) < n) = true ∧ decide ((most n : Int) < 64) = false) := by
        simp only [decide_eq_true_eq, decide_eq_false_iff_not]; unfold most; omega
      rcases hd with hd | ⟨hd, hd2⟩
      all_goals
        go_wp2
        refine bodyPost_ret (v := v4 (rnds (most n) (a, b, c, d))) (by simp [results, Try.results108, go_sem, z0, z1, z2, z3, v4]) rfl ⟨rfl, ?_⟩
        repeat (first | exact hT.2.2 | (with_reducible refine Below.setCell ?_ (by simp) _) | (with_reducible refine below_drewN ?_ _) | (with_reducible refine Below.drew ?_))
end Go.Proofs.Ytcphcgkbjlgkiaa
