/- The walks of package sip's rounds and of its reference's. -/
import Derived.Test.YtcphcgkbjlgkiaaWordMath
import Derived.Test.YtcphcgkbjlgkiaaChecked
import Derived.WalkSpells
import Derived.WalkLawsBesides
import Derived.Outline
import Derived.Handy
import Derived.Deep.RegionHeld3
import Derived.Deep.QuietTactic
import Derived.BigQuiet
import Derived.Deep.RegionWith
import Derived.Deep.RegionLaw
import Derived.Deep.DeepCutAuto
import Derived.Deep.LoopGhost
namespace Go.Proofs.Ytcphcgkbjlgkiaa
open Go.RowKit

theorem rot_13 (x : BitVec 64) (w : World) : Calls Try.prog 83 #[.int .u64 (U x), .int .i64 13] w fun e w' => e = .returned (.int .u64 (U (rot 13 x))) ∧ w = w' := by
  have hb : bits .and .u64 13 63 = 13 := by decide
  have hu := U_bd x
  go_enter Try.func83, Try.ntmps83
  go_wp2
  go_ret
  exact ⟨congrArg (fun n => Ending.returned (.int .u64 n)) (U_rot x 13 _ _ (by decide) rfl rfl), rfl⟩
theorem turn_13 (x : BitVec 64) (w : World) : Calls Try.prog 112 #[.int .u64 (U x), .int .i64 13] w fun e w' => e = .returned (.int .u64 (U (rot 13 x))) ∧ ∃ n, w' = w.drewN n := by
  have hu := U_bd x
  go_enter Try.func112, Try.ntmps112
  go_wp2
  go_quiet (fail)
  go_wp2
  go_ret
  exact ⟨congrArg (fun n => Ending.returned (.int .u64 n)) (U_rot x 13 _ _ (by decide) rfl rfl), _, rfl⟩
theorem rot_16 (x : BitVec 64) (w : World) : Calls Try.prog 83 #[.int .u64 (U x), .int .i64 16] w fun e w' => e = .returned (.int .u64 (U (rot 16 x))) ∧ w = w' := by
  have hb : bits .and .u64 16 63 = 16 := by decide
  have hu := U_bd x
  go_enter Try.func83, Try.ntmps83
  go_wp2
  go_ret
  exact ⟨congrArg (fun n => Ending.returned (.int .u64 n)) (U_rot x 16 _ _ (by decide) rfl rfl), rfl⟩
theorem turn_16 (x : BitVec 64) (w : World) : Calls Try.prog 112 #[.int .u64 (U x), .int .i64 16] w fun e w' => e = .returned (.int .u64 (U (rot 16 x))) ∧ ∃ n, w' = w.drewN n := by
  have hu := U_bd x
  go_enter Try.func112, Try.ntmps112
  go_wp2
  go_quiet (fail)
  go_wp2
  go_ret
  exact ⟨congrArg (fun n => Ending.returned (.int .u64 n)) (U_rot x 16 _ _ (by decide) rfl rfl), _, rfl⟩
theorem rot_17 (x : BitVec 64) (w : World) : Calls Try.prog 83 #[.int .u64 (U x), .int .i64 17] w fun e w' => e = .returned (.int .u64 (U (rot 17 x))) ∧ w = w' := by
  have hb : bits .and .u64 17 63 = 17 := by decide
  have hu := U_bd x
  go_enter Try.func83, Try.ntmps83
  go_wp2
  go_ret
  exact ⟨congrArg (fun n => Ending.returned (.int .u64 n)) (U_rot x 17 _ _ (by decide) rfl rfl), rfl⟩
theorem turn_17 (x : BitVec 64) (w : World) : Calls Try.prog 112 #[.int .u64 (U x), .int .i64 17] w fun e w' => e = .returned (.int .u64 (U (rot 17 x))) ∧ ∃ n, w' = w.drewN n := by
  have hu := U_bd x
  go_enter Try.func112, Try.ntmps112
  go_wp2
  go_quiet (fail)
  go_wp2
  go_ret
  exact ⟨congrArg (fun n => Ending.returned (.int .u64 n)) (U_rot x 17 _ _ (by decide) rfl rfl), _, rfl⟩
theorem rot_21 (x : BitVec 64) (w : World) : Calls Try.prog 83 #[.int .u64 (U x), .int .i64 21] w fun e w' => e = .returned (.int .u64 (U (rot 21 x))) ∧ w = w' := by
  have hb : bits .and .u64 21 63 = 21 := by decide
  have hu := U_bd x
  go_enter Try.func83, Try.ntmps83
  go_wp2
  go_ret
  exact ⟨congrArg (fun n => Ending.returned (.int .u64 n)) (U_rot x 21 _ _ (by decide) rfl rfl), rfl⟩
theorem turn_21 (x : BitVec 64) (w : World) : Calls Try.prog 112 #[.int .u64 (U x), .int .i64 21] w fun e w' => e = .returned (.int .u64 (U (rot 21 x))) ∧ ∃ n, w' = w.drewN n := by
  have hu := U_bd x
  go_enter Try.func112, Try.ntmps112
  go_wp2
  go_quiet (fail)
  go_wp2
  go_ret
  exact ⟨congrArg (fun n => Ending.returned (.int .u64 n)) (U_rot x 21 _ _ (by decide) rfl rfl), _, rfl⟩
theorem rot_32 (x : BitVec 64) (w : World) : Calls Try.prog 83 #[.int .u64 (U x), .int .i64 32] w fun e w' => e = .returned (.int .u64 (U (rot 32 x))) ∧ w = w' := by
  have hb : bits .and .u64 32 63 = 32 := by decide
  have hu := U_bd x
  go_enter Try.func83, Try.ntmps83
  go_wp2
  go_ret
  exact ⟨congrArg (fun n => Ending.returned (.int .u64 n)) (U_rot x 32 _ _ (by decide) rfl rfl), rfl⟩
theorem turn_32 (x : BitVec 64) (w : World) : Calls Try.prog 112 #[.int .u64 (U x), .int .i64 32] w fun e w' => e = .returned (.int .u64 (U (rot 32 x))) ∧ ∃ n, w' = w.drewN n := by
  have hu := U_bd x
  go_enter Try.func112, Try.ntmps112
  go_wp2
  go_quiet (fail)
  go_wp2
  go_ret
  exact ⟨congrArg (fun n => Ending.returned (.int .u64 n)) (U_rot x 32 _ _ (by decide) rfl rfl), _, rfl⟩

/-- A state as a value. -/
abbrev v4 (v : V4) : Value := .agg #[.int .u64 (U v.1), .int .u64 (U v.2.1), .int .u64 (U v.2.2.1), .int .u64 (U v.2.2.2)]

/-- Two blocks of four words: a state, and where it will be told; nothing below has turned. -/
def Two (w0 w : World) (x y : Array Value) : Prop := Blk w w0.heap.size 81 x ∧ Blk w (w0.heap.size + 1) 81 y ∧ Below w0.heap.size w0 w
section
variable {w0 w : World} {x y : Array Value}
theorem Two.drewN (h : Two w0 w x y) (n : Nat) : Two w0 (w.drewN n) x y := ⟨h.1.drewN n, h.2.1.drewN n, below_drewN h.2.2 n⟩
theorem Two.drew (h : Two w0 w x y) : Two w0 w.drew x y := ⟨h.1.drew, h.2.1.drew, h.2.2.drew⟩
theorem Two.set_ (h : Two w0 w x y) (i : Nat) (u : Value) : Two w0 (w.setCell ⟨w0.heap.size, i, none⟩ u) (x.setIfInBounds i u) y :=
  ⟨h.1.set_ i u, h.2.1.far (by simp) u, h.2.2.setCell (Nat.le_refl _) u⟩
end
def st4 (a b c d : BitVec 64) : Array Value := #[.int .u64 (U a), .int .u64 (U b), .int .u64 (U c), .int .u64 (U d)]
def ze4 : Array Value := #[.int .u64 0, .int .u64 0, .int .u64 0, .int .u64 0]
theorem Two.cells {w0 w : World} {a b c d : BitVec 64} {y : Array Value} (h : Two w0 w (st4 a b c d) y) :
    w.cell? ⟨w0.heap.size, 0, none⟩ = some (.int .u64 (U a)) ∧ w.cell? ⟨w0.heap.size, 1, none⟩ = some (.int .u64 (U b)) ∧
    w.cell? ⟨w0.heap.size, 2, none⟩ = some (.int .u64 (U c)) ∧ w.cell? ⟨w0.heap.size, 3, none⟩ = some (.int .u64 (U d)) ∧
    w.frozen? ⟨w0.heap.size, 0, none⟩ = false ∧ w.frozen? ⟨w0.heap.size, 1, none⟩ = false ∧ w.frozen? ⟨w0.heap.size, 2, none⟩ = false ∧ w.frozen? ⟨w0.heap.size, 3, none⟩ = false :=
  ⟨h.1.cell 0, h.1.cell 1, h.1.cell 2, h.1.cell 3, h.1.frozen 0, h.1.frozen 1, h.1.frozen 2, h.1.frozen 3⟩

section
variable {w0 w : World} {a b c d : BitVec 64} {y : Array Value}
theorem Two.zeros (h : Two w0 w y ze4) : w.cell? ⟨w0.heap.size + 1, 0, none⟩ = some (.int .u64 0) ∧ w.cell? ⟨w0.heap.size + 1, 1, none⟩ = some (.int .u64 0) ∧
    w.cell? ⟨w0.heap.size + 1, 2, none⟩ = some (.int .u64 0) ∧ w.cell? ⟨w0.heap.size + 1, 3, none⟩ = some (.int .u64 0) ∧
    w.frozen? ⟨w0.heap.size + 1, 0, none⟩ = false ∧ w.frozen? ⟨w0.heap.size + 1, 1, none⟩ = false ∧ w.frozen? ⟨w0.heap.size + 1, 2, none⟩ = false ∧ w.frozen? ⟨w0.heap.size + 1, 3, none⟩ = false :=
  ⟨h.2.1.cell 0, h.2.1.cell 1, h.2.1.cell 2, h.2.1.cell 3, h.2.1.frozen 0, h.2.1.frozen 1, h.2.1.frozen 2, h.2.1.frozen 3⟩
theorem Two.s0 {x : BitVec 64} (h : Two w0 w (st4 a b c d) y) : Two w0 (w.setCell ⟨w0.heap.size, 0, none⟩ (.int .u64 (U x))) (st4 x b c d) y := h.set_ 0 _
theorem Two.s1 {x : BitVec 64} (h : Two w0 w (st4 a b c d) y) : Two w0 (w.setCell ⟨w0.heap.size, 1, none⟩ (.int .u64 (U x))) (st4 a x c d) y := h.set_ 1 _
theorem Two.s2 {x : BitVec 64} (h : Two w0 w (st4 a b c d) y) : Two w0 (w.setCell ⟨w0.heap.size, 2, none⟩ (.int .u64 (U x))) (st4 a b x d) y := h.set_ 2 _
theorem Two.s3 {x : BitVec 64} (h : Two w0 w (st4 a b c d) y) : Two w0 (w.setCell ⟨w0.heap.size, 3, none⟩ (.int .u64 (U x))) (st4 a b c x) y := h.set_ 3 _
end

set_option maxHeartbeats 4000000 in
set_option maxRecDepth 100000 in
theorem round_ref (a b c d : BitVec 64) (w : World) : Calls Try.prog 111 #[.agg #[.int .u64 (U a), .int .u64 (U b), .int .u64 (U c), .int .u64 (U d)]] w
    fun e w' => e = .returned (v4 (rnd (a, b, c, d))) ∧ Below w.heap.size w w' := by
  have k1 := U_add
  have k2 := U_xor
  go_enter Try.func111, Try.ntmps111
  go_upto_region 1 with (fail)
  go_cut [] (fun wx => Two w wx (st4 (a + b) b c d) ze4)
  case first =>
    go_wp2
    go_meet
    exact ⟨(Blk.new w _ _).alloc _, by have := Blk.new (w.alloc (.cells #[.int .u64 (U (a + b)), .int .u64 (U b), .int .u64 (U c), .int .u64 (U d)] 81)) 81 ze4; rw [World.size_alloc] at this; exact this, ((Below.refl _ _).alloc (Nat.le_refl _) _).alloc (by simp) _⟩
  obtain ⟨c0, c1, c2, c3, f0, f1, f2, f3⟩ := hcut.cells
  go_upto_region 2 with (go_at_call 112; refine (turn_32 _ _).mono ?_; rintro e w' ⟨rfl, n, rfl⟩)
  go_cut [] (fun wx => Two w wx (st4 (a + b) (rot 13 b ^^^ (a + b)) c d) ze4)
  case first =>
    go_region_with (go_at_call 112; refine (turn_13 _ _).mono ?_; rintro e w' ⟨rfl, n, rfl⟩)
    all_goals
      go_wp2_with (fail)
      go_meet
      repeat (first | exact hcut | (with_reducible refine Two.drewN ?_ _) | (with_reducible refine Two.drew ?_) | (with_reducible apply Two.s0) | (with_reducible apply Two.s1) | (with_reducible apply Two.s2) | (with_reducible apply Two.s3))
  clear c0 c1 c2 c3 f0 f1 f2 f3
  obtain ⟨c0, c1, c2, c3, f0, f1, f2, f3⟩ := hcut.cells
  go_upto_region 5 with (go_at_call 112; refine (turn_32 _ _).mono ?_; rintro e w' ⟨rfl, n, rfl⟩)
  go_cut [] (fun wx => Two w wx (st4 (rot 32 (a + b)) (rot 13 b ^^^ (a + b)) (c + d) (rot 16 d ^^^ (c + d))) ze4)
  case first =>
    go_region_with (go_at_call 112; refine (turn_16 _ _).mono ?_; rintro e w' ⟨rfl, n, rfl⟩)
    all_goals
      go_wp2_with (fail)
      go_meet
      repeat (first | exact hcut | (with_reducible refine Two.drewN ?_ _) | (with_reducible refine Two.drew ?_) | (with_reducible apply Two.s0) | (with_reducible apply Two.s1) | (with_reducible apply Two.s2) | (with_reducible apply Two.s3))
  clear c0 c1 c2 c3 f0 f1 f2 f3
  obtain ⟨c0, c1, c2, c3, f0, f1, f2, f3⟩ := hcut.cells
  go_upto_region 7 with (go_at_call 112; refine (turn_32 _ _).mono ?_; rintro e w' ⟨rfl, n, rfl⟩)
  go_cut [] (fun wx => Two w wx (st4 ((rot 32 (a + b)) + (rot 16 d ^^^ (c + d))) (rot 13 b ^^^ (a + b)) (c + d) (rot 21 (rot 16 d ^^^ (c + d)) ^^^ ((rot 32 (a + b)) + (rot 16 d ^^^ (c + d))))) ze4)
  case first =>
    go_region_with (go_at_call 112; refine (turn_21 _ _).mono ?_; rintro e w' ⟨rfl, n, rfl⟩)
    all_goals
      go_wp2_with (fail)
      go_meet
      repeat (first | exact hcut | (with_reducible refine Two.drewN ?_ _) | (with_reducible refine Two.drew ?_) | (with_reducible apply Two.s0) | (with_reducible apply Two.s1) | (with_reducible apply Two.s2) | (with_reducible apply Two.s3))
  clear c0 c1 c2 c3 f0 f1 f2 f3
  obtain ⟨c0, c1, c2, c3, f0, f1, f2, f3⟩ := hcut.cells
  go_upto_region 9 with (go_at_call 112; refine (turn_32 _ _).mono ?_; rintro e w' ⟨rfl, n, rfl⟩)
  go_cut [] (fun wx => Two w wx (st4 ((rot 32 (a + b)) + (rot 16 d ^^^ (c + d))) (rot 17 (rot 13 b ^^^ (a + b)) ^^^ ((c + d) + (rot 13 b ^^^ (a + b)))) ((c + d) + (rot 13 b ^^^ (a + b))) (rot 21 (rot 16 d ^^^ (c + d)) ^^^ ((rot 32 (a + b)) + (rot 16 d ^^^ (c + d))))) ze4)
  case first =>
    go_region_with (go_at_call 112; refine (turn_17 _ _).mono ?_; rintro e w' ⟨rfl, n, rfl⟩)
    all_goals
      go_wp2_with (fail)
      go_meet
      repeat (first | exact hcut | (with_reducible refine Two.drewN ?_ _) | (with_reducible refine Two.drew ?_) | (with_reducible apply Two.s0) | (with_reducible apply Two.s1) | (with_reducible apply Two.s2) | (with_reducible apply Two.s3))
  clear c0 c1 c2 c3 f0 f1 f2 f3
  obtain ⟨c0, c1, c2, c3, f0, f1, f2, f3⟩ := hcut.cells
  obtain ⟨z0, z1, z2, z3, g0, g1, g2, g3⟩ := hcut.zeros
  go_wp2_with (go_at_call 112; refine (turn_32 _ _).mono ?_; rintro e w' ⟨rfl, n, rfl⟩)
  refine bodyPost_ret (v := v4 (rnd (a, b, c, d))) (by simp [results, Try.results111, go_sem, z0, z1, z2, z3, v4, rnd]) rfl ⟨rfl, ?_⟩
  repeat (first | exact hcut.2.2 | (with_reducible refine Below.setCell ?_ (by simp) _) | (with_reducible refine below_drewN ?_ _) | (with_reducible refine Below.drew ?_))
end Go.Proofs.Ytcphcgkbjlgkiaa
