/- The walks of package sip's Round and of its reference's. The walk of package sip's Round. -/
import Derived.Test.YthjkdpphbipgfaaSip
import Derived.StillTailTactics
namespace Go.Proofs.Ythjkdpphbipgfaa
open Go.RowKit

theorem Two.below {w0 w w' : World} {x y : Array Value} (h : Two w0 w x y) (hb : Below w.heap.size w w') : Two w0 w' x y :=
  ⟨h.1.below hb h.1.lt, h.2.1.below hb h.2.1.lt, h.2.2.trans (hb.mono (h.2.2.size))⟩
def arr (v : V4) : Array Value := st4 v.1 v.2.1 v.2.2.1 v.2.2.2
/-- How many rounds are done, if n are asked for. -/
def most (n : Int) : Nat := (min n 64).toNat

end Go.Proofs.Ythjkdpphbipgfaa

namespace Go.Proofs.Ythjkdpphbipgfaa
open Go.RowKit

set_option maxHeartbeats 4000000 in
set_option maxRecDepth 100000 in
theorem Round_any (a b c d : BitVec 64) (n : Int) (hn : -9223372036854775808 ≤ n ∧ n ≤ 9223372036854775807) (w : World) : Calls Try.prog 72 #[.agg #[.int .u64 (U a), .int .u64 (U b), .int .u64 (U c), .int .u64 (U d)], .int .i64 n] w
    fun e w' => e = .returned (v4 (rnds (most n) (a, b, c, d))) ∧ Below w.heap.size w w' := by
  obtain ⟨hn1, hn2⟩ := hn
  have k1 := U_add
  have k2 := U_xor
  go_enter Try.func72, Try.ntmps72
  go_upto_region 1 with (fail)
  go_cut [6, 7] (fun s6 s7 wx => ∃ m : Int, Aside (m = if n ≤ 64 then n else 64) ∧ s6 = .int .i64 m ∧ s7 = .int .i64 0 ∧ Two w wx (st4 a b c d) ze4)
  case first =>
    by_cases hle : n ≤ 64
    all_goals
      go_wp2_with (fail)
      go_meet
      refine ⟨_, ?_, rfl, rfl, (Blk.new w _ _).alloc _, ?_, ((Below.refl _ _).alloc (Nat.le_refl _) _).alloc (by simp) _⟩
      · first | exact (if_pos hle).symm | exact (if_neg (by omega)).symm
      · have := Blk.new (w.alloc (.cells #[.int .u64 (U a), .int .u64 (U b), .int .u64 (U c), .int .u64 (U d)] 123)) 123 ze4
        rw [World.size_alloc] at this
        exact this
  obtain ⟨m, hm, rfl, rfl, hT0⟩ := hcut
  have hmost : ∀ k : Nat, (k < most n → (k : Int) < m) ∧ (¬ k < most n → m ≤ (k : Int)) := by
    have := hm.out
    intro k; unfold most; split at this <;> omega
  have hM := Lib.hid hmost
  clear hmost
  go_wp2
  go_loopg [7] (most n) (fun g i wr => ∃ (k : Nat) (a0 b0 c0 d0 : BitVec 64), g + k = most n ∧ i = .int .i64 (k : Int) ∧ Aside ((a0, b0, c0, d0) = rnds k (a, b, c, d)) ∧ Two w wr (st4 a0 b0 c0 d0) ze4)
  case atStart =>
    exact ⟨0, a, b, c, d, by omega, rfl, rfl, hT0⟩
  case round =>
    obtain ⟨k, ra, rb, rc, rd, hk, rfl, hst, hT⟩ := hrel
    by_cases hlt : k < most n
    · have h1 : (k : Int) < m := (hM.out k).1 hlt
      have h2 : (k : Int) < 64 := by unfold most at hlt; omega
      obtain ⟨c0, c1, c2, c3, f0, f1, f2, f3⟩ := hT.cells
      go_upto_region 4 with (go_at_call 101; refine (rot_32 _ _).mono ?_; rintro e w' ⟨rfl, rfl⟩)
      go_cut [] (fun wx => Two w wx (st4 (ra + rb) (rot 13 rb ^^^ (ra + rb)) rc rd) ze4)
      case first =>
        go_region_with (go_at_call 101; refine (rot_13 _ _).mono ?_; rintro e w' ⟨rfl, rfl⟩)
        all_goals
          go_wp2_with (fail)
          go_meet
          repeat (first | exact hcut | exact hT | (with_reducible refine Two.drewN ?_ _) | (with_reducible refine Two.drew ?_) | (with_reducible apply Two.s0) | (with_reducible apply Two.s1) | (with_reducible apply Two.s2) | (with_reducible apply Two.s3))
      clear c0 c1 c2 c3 f0 f1 f2 f3
      obtain ⟨c0, c1, c2, c3, f0, f1, f2, f3⟩ := hcut.cells
      go_upto_region 7 with (go_at_call 101; refine (rot_32 _ _).mono ?_; rintro e w' ⟨rfl, rfl⟩)
      go_cut [] (fun wx => Two w wx (st4 (rot 32 (ra + rb)) (rot 13 rb ^^^ (ra + rb)) (rc + rd) (rot 16 rd ^^^ (rc + rd))) ze4)
      case first =>
        go_region_with (go_at_call 101; refine (rot_16 _ _).mono ?_; rintro e w' ⟨rfl, rfl⟩)
        all_goals
          go_wp2_with (fail)
          go_meet
          repeat (first | exact hcut | exact hT | (with_reducible refine Two.drewN ?_ _) | (with_reducible refine Two.drew ?_) | (with_reducible apply Two.s0) | (with_reducible apply Two.s1) | (with_reducible apply Two.s2) | (with_reducible apply Two.s3))
      clear c0 c1 c2 c3 f0 f1 f2 f3
      obtain ⟨c0, c1, c2, c3, f0, f1, f2, f3⟩ := hcut.cells
      go_upto_region 9 with (go_at_call 101; refine (rot_32 _ _).mono ?_; rintro e w' ⟨rfl, rfl⟩)
      go_cut [] (fun wx => Two w wx (st4 ((rot 32 (ra + rb)) + (rot 16 rd ^^^ (rc + rd))) (rot 13 rb ^^^ (ra + rb)) (rc + rd) (rot 21 (rot 16 rd ^^^ (rc + rd)) ^^^ ((rot 32 (ra + rb)) + (rot 16 rd ^^^ (rc + rd))))) ze4)
      case first =>
        go_region_with (go_at_call 101; refine (rot_21 _ _).mono ?_; rintro e w' ⟨rfl, rfl⟩)
        all_goals
          go_wp2_with (fail)
          go_meet
          repeat (first | exact hcut | exact hT | (with_reducible refine Two.drewN ?_ _) | (with_reducible refine Two.drew ?_) | (with_reducible apply Two.s0) | (with_reducible apply Two.s1) | (with_reducible apply Two.s2) | (with_reducible apply Two.s3))
      clear c0 c1 c2 c3 f0 f1 f2 f3
      obtain ⟨c0, c1, c2, c3, f0, f1, f2, f3⟩ := hcut.cells
      go_upto_region 11 with (go_at_call 101; refine (rot_32 _ _).mono ?_; rintro e w' ⟨rfl, rfl⟩)
      go_cut [] (fun wx => Two w wx (st4 ((rot 32 (ra + rb)) + (rot 16 rd ^^^ (rc + rd))) (rot 17 (rot 13 rb ^^^ (ra + rb)) ^^^ ((rc + rd) + (rot 13 rb ^^^ (ra + rb)))) ((rc + rd) + (rot 13 rb ^^^ (ra + rb))) (rot 21 (rot 16 rd ^^^ (rc + rd)) ^^^ ((rot 32 (ra + rb)) + (rot 16 rd ^^^ (rc + rd))))) ze4)
      case first =>
        go_region_with (go_at_call 101; refine (rot_17 _ _).mono ?_; rintro e w' ⟨rfl, rfl⟩)
        all_goals
          go_wp2_with (fail)
          go_meet
          repeat (first | exact hcut | exact hT | (with_reducible refine Two.drewN ?_ _) | (with_reducible refine Two.drew ?_) | (with_reducible apply Two.s0) | (with_reducible apply Two.s1) | (with_reducible apply Two.s2) | (with_reducible apply Two.s3))
      clear c0 c1 c2 c3 f0 f1 f2 f3
      obtain ⟨c0, c1, c2, c3, f0, f1, f2, f3⟩ := hcut.cells
      go_wp2_with (go_at_call 101; refine (rot_32 _ _).mono ?_; rintro e w' ⟨rfl, rfl⟩)
      go_roundg (most n - (k + 1))
      case measure => omega
      case rel =>
        refine ⟨k + 1, (rnd (ra, rb, rc, rd)).1, (rnd (ra, rb, rc, rd)).2.1, (rnd (ra, rb, rc, rd)).2.2.1, (rnd (ra, rb, rc, rd)).2.2.2, by omega, by go_num, ?_, ?_⟩
        · show rnd (ra, rb, rc, rd) = rnd (rnds k (a, b, c, d))
          rw [hst.out]
        · exact hcut.s2
    · have e : k = most n := by omega
      have h1 : m ≤ (k : Int) := (hM.out _).2 hlt
      have h2 : decide ((k : Int) < m) = false := by simpa using h1
      have he := Lib.hid e
      clear e hlt hk
      obtain ⟨c0, c1, c2, c3, f0, f1, f2, f3⟩ := hT.cells
      obtain ⟨z0, z1, z2, z3, g0, g1, g2, g3⟩ := hT.zeros
      go_wp2_with (fail)
      refine bodyPost_ret (v := v4 (ra, rb, rc, rd)) (by simp [results, Try.results72, go_sem, z0, z1, z2, z3, v4]) rfl ⟨by rw [hst.out, he.out], ?_⟩
      repeat (first | exact hT.2.2 | (with_reducible refine Below.setCell ?_ (by simp) _) | (with_reducible refine below_drewN ?_ _) | (with_reducible refine Below.drew ?_))
end Go.Proofs.Ythjkdpphbipgfaa
