/- The walks of package sip's rounds and of its reference's. -/
import Derived.Test.YthjkdpphbipgfaaWordMath
import Derived.Test.YthjkdpphbipgfaaChecked
import Derived.WalkSpells
import Derived.WalkLawsBesides
import Derived.Outline
import Derived.Handy
import Derived.Deep.RegionHeld3
import Derived.Deep.QuietTactic
import Derived.BigQuiet
import Derived.Deep.RegionWith
import Derived.Deep.RegionLaw
import Derived.Deep.DeepCutAuto
import Derived.Deep.LoopGhost
namespace Go.Proofs.Ythjkdpphbipgfaa
open Go.RowKit

theorem rot_13 (x : BitVec 64) (w : World) : Calls Try.prog 101 #[.int .u64 (U x), .int .i64 13] w fun e w' => e = .returned (.int .u64 (U (rot 13 x))) ∧ w = w' := by
  have hb : bits .and .u64 13 63 = 13 := by decide
  have hu := U_bd x
  go_enter Try.func101, Try.ntmps101
  go_wp2
  go_ret
  exact ⟨congrArg (fun n => Ending.returned (.int .u64 n)) (U_rot x 13 _ _ (by decide) rfl rfl), rfl⟩
theorem rot_16 (x : BitVec 64) (w : World) : Calls Try.prog 101 #[.int .u64 (U x), .int .i64 16] w fun e w' => e = .returned (.int .u64 (U (rot 16 x))) ∧ w = w' := by
  have hb : bits .and .u64 16 63 = 16 := by decide
  have hu := U_bd x
  go_enter Try.func101, Try.ntmps101
  go_wp2
  go_ret
  exact ⟨congrArg (fun n => Ending.returned (.int .u64 n)) (U_rot x 16 _ _ (by decide) rfl rfl), rfl⟩
theorem rot_17 (x : BitVec 64) (w : World) : Calls Try.prog 101 #[.int .u64 (U x), .int .i64 17] w fun e w' => e = .returned (.int .u64 (U (rot 17 x))) ∧ w = w' := by
  have hb : bits .and .u64 17 63 = 17 := by decide
  have hu := U_bd x
  go_enter Try.func101, Try.ntmps101
  go_wp2
  go_ret
  exact ⟨congrArg (fun n => Ending.returned (.int .u64 n)) (U_rot x 17 _ _ (by decide) rfl rfl), rfl⟩
theorem rot_21 (x : BitVec 64) (w : World) : Calls Try.prog 101 #[.int .u64 (U x), .int .i64 21] w fun e w' => e = .returned (.int .u64 (U (rot 21 x))) ∧ w = w' := by
  have hb : bits .and .u64 21 63 = 21 := by decide
  have hu := U_bd x
  go_enter Try.func101, Try.ntmps101
  go_wp2
  go_ret
  exact ⟨congrArg (fun n => Ending.returned (.int .u64 n)) (U_rot x 21 _ _ (by decide) rfl rfl), rfl⟩
theorem rot_32 (x : BitVec 64) (w : World) : Calls Try.prog 101 #[.int .u64 (U x), .int .i64 32] w fun e w' => e = .returned (.int .u64 (U (rot 32 x))) ∧ w = w' := by
  have hb : bits .and .u64 32 63 = 32 := by decide
  have hu := U_bd x
  go_enter Try.func101, Try.ntmps101
  go_wp2
  go_ret
  exact ⟨congrArg (fun n => Ending.returned (.int .u64 n)) (U_rot x 32 _ _ (by decide) rfl rfl), rfl⟩
/-- A state as a value. -/
abbrev v4 (v : V4) : Value := .agg #[.int .u64 (U v.1), .int .u64 (U v.2.1), .int .u64 (U v.2.2.1), .int .u64 (U v.2.2.2)]

/-- Two blocks of four words: a state, and where it will be told; nothing below has turned. -/
def Two (w0 w : World) (x y : Array Value) : Prop := Blk w w0.heap.size 123 x ∧ Blk w (w0.heap.size + 1) 123 y ∧ Below w0.heap.size w0 w
section
variable {w0 w : World} {x y : Array Value}
theorem Two.drewN (h : Two w0 w x y) (n : Nat) : Two w0 (w.drewN n) x y := ⟨h.1.drewN n, h.2.1.drewN n, below_drewN h.2.2 n⟩
theorem Two.drew (h : Two w0 w x y) : Two w0 w.drew x y := ⟨h.1.drew, h.2.1.drew, h.2.2.drew⟩
theorem Two.set_ (h : Two w0 w x y) (i : Nat) (u : Value) : Two w0 (w.setCell ⟨w0.heap.size, i, none⟩ u) (x.setIfInBounds i u) y :=
  ⟨h.1.set_ i u, h.2.1.far (by simp) u, h.2.2.setCell (Nat.le_refl _) u⟩
end
def st4 (a b c d : BitVec 64) : Array Value := #[.int .u64 (U a), .int .u64 (U b), .int .u64 (U c), .int .u64 (U d)]
def ze4 : Array Value := #[.int .u64 0, .int .u64 0, .int .u64 0, .int .u64 0]
theorem Two.cells {w0 w : World} {a b c d : BitVec 64} {y : Array Value} (h : Two w0 w (st4 a b c d) y) :
    w.cell? ⟨w0.heap.size, 0, none⟩ = some (.int .u64 (U a)) ∧ w.cell? ⟨w0.heap.size, 1, none⟩ = some (.int .u64 (U b)) ∧
    w.cell? ⟨w0.heap.size, 2, none⟩ = some (.int .u64 (U c)) ∧ w.cell? ⟨w0.heap.size, 3, none⟩ = some (.int .u64 (U d)) ∧
    w.frozen? ⟨w0.heap.size, 0, none⟩ = false ∧ w.frozen? ⟨w0.heap.size, 1, none⟩ = false ∧ w.frozen? ⟨w0.heap.size, 2, none⟩ = false ∧ w.frozen? ⟨w0.heap.size, 3, none⟩ = false :=
  ⟨h.1.cell 0, h.1.cell 1, h.1.cell 2, h.1.cell 3, h.1.frozen 0, h.1.frozen 1, h.1.frozen 2, h.1.frozen 3⟩

section
variable {w0 w : World} {a b c d : BitVec 64} {y : Array Value}
theorem Two.zeros (h : Two w0 w y ze4) : w.cell? ⟨w0.heap.size + 1, 0, none⟩ = some (.int .u64 0) ∧ w.cell? ⟨w0.heap.size + 1, 1, none⟩ = some (.int .u64 0) ∧
    w.cell? ⟨w0.heap.size + 1, 2, none⟩ = some (.int .u64 0) ∧ w.cell? ⟨w0.heap.size + 1, 3, none⟩ = some (.int .u64 0) ∧
    w.frozen? ⟨w0.heap.size + 1, 0, none⟩ = false ∧ w.frozen? ⟨w0.heap.size + 1, 1, none⟩ = false ∧ w.frozen? ⟨w0.heap.size + 1, 2, none⟩ = false ∧ w.frozen? ⟨w0.heap.size + 1, 3, none⟩ = false :=
  ⟨h.2.1.cell 0, h.2.1.cell 1, h.2.1.cell 2, h.2.1.cell 3, h.2.1.frozen 0, h.2.1.frozen 1, h.2.1.frozen 2, h.2.1.frozen 3⟩
theorem Two.s0 {x : BitVec 64} (h : Two w0 w (st4 a b c d) y) : Two w0 (w.setCell ⟨w0.heap.size, 0, none⟩ (.int .u64 (U x))) (st4 x b c d) y := h.set_ 0 _
theorem Two.s1 {x : BitVec 64} (h : Two w0 w (st4 a b c d) y) : Two w0 (w.setCell ⟨w0.heap.size, 1, none⟩ (.int .u64 (U x))) (st4 a x c d) y := h.set_ 1 _
theorem Two.s2 {x : BitVec 64} (h : Two w0 w (st4 a b c d) y) : Two w0 (w.setCell ⟨w0.heap.size, 2, none⟩ (.int .u64 (U x))) (st4 a b x d) y := h.set_ 2 _
theorem Two.s3 {x : BitVec 64} (h : Two w0 w (st4 a b c d) y) : Two w0 (w.setCell ⟨w0.heap.size, 3, none⟩ (.int .u64 (U x))) (st4 a b c x) y := h.set_ 3 _
end

end Go.Proofs.Ythjkdpphbipgfaa
