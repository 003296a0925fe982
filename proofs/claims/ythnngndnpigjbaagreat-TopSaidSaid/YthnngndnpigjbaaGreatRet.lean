/- Small lemmas that both halves of the proofs use; no program in sight. Conditions: none. Two cells that a drawn region's calls leave as they were; no program in sight. Conditions: none. -/
import Derived.Test.YthnngndnpigjbaaGreatBase
import Derived.RangeFuncNested
import Derived.RangeFuncFrom
namespace Go.Proofs.YthnngndnpigjbaaGreat
open Go.RowKit

theorem ret_b {a b : Bool} (h : a = b) : Ending.returned (.bool a) = .returned (.bool b) := by rw [h]
theorem ret_i {k : IntKind} {a b : Int} (h : a = b) : Ending.returned (.int k a) = .returned (.int k b) := by rw [h]
/-- A byte in memory. -/
def b8 (c : UInt8) : Value := .int .u8 (c.toNat : Int)
theorem kp_b {w : World} {Bn : Nat} (hB : Bn < w.heap.size) (W : World) (l : Nat) (o o' : Obj) (hl : w.heap.size ≤ l) (_ : W.heap[l]? = some o) (_ : o.isCells = false) (_ : o.isWalk = false) :
    (W.putObj l o').cell? ⟨Bn, 0, none⟩ = W.cell? ⟨Bn, 0, none⟩ :=
  World.cell?_of_block (World.putObj_heap_other (show Bn ≠ l by omega))
theorem blk_own {β : Type} (B : Nat) (t : TypeId) (f : β → Array Value) : Own (fun s W => Blk W B t (f s)) := by
  intro s X Y row hs hg hrow
  refine hs.grown hg (fun e => ?_)
  obtain ⟨o, ho, hc⟩ := hrow B e.symm
  have : X.heap[B]? = some (.cells (f s) t (0, 0)) := hs
  rw [this] at ho
  cases ho
  cases hc
theorem keeps_below {W W' : World} (hb : Below W.heap.size W W') : KeepsOthers W W' :=
  ⟨hb.size, fun k _ hk _ => (hb.block k (Array.getElem?_eq_some_iff.1 hk).1).trans hk⟩
end Go.Proofs.YthnngndnpigjbaaGreat

namespace Go.Proofs.YthnngndnpigjbaaGreat
open Go.RowKit

theorem keep2D {V W : World} {a : Nat} {x0 x1 : Option Value}
    (H : W.cell? ⟨a, 0, none⟩ = x0 ∧ W.cell? ⟨a, 1, none⟩ = x1 ∧ V.heap.size ≤ W.heap.size ∧ Below V.heap.size V W) :
    W.drew.cell? ⟨a, 0, none⟩ = x0 ∧ W.drew.cell? ⟨a, 1, none⟩ = x1 ∧ V.heap.size ≤ W.drew.heap.size ∧ Below V.heap.size V W.drew := ⟨H.1, H.2.1, H.2.2.1, H.2.2.2.drew⟩
theorem keep2C {V W w' : World} {a : Nat} {x0 x1 : Option Value} (ha : a < V.heap.size)
    (H : W.cell? ⟨a, 0, none⟩ = x0 ∧ W.cell? ⟨a, 1, none⟩ = x1 ∧ V.heap.size ≤ W.heap.size ∧ Below V.heap.size V W) (hw : Below W.heap.size W w') :
    w'.cell? ⟨a, 0, none⟩ = x0 ∧ w'.cell? ⟨a, 1, none⟩ = x1 ∧ V.heap.size ≤ w'.heap.size ∧ Below V.heap.size V w' := by
  obtain ⟨h0, h1, h2, h3⟩ := H
  have ha' : a < W.heap.size := by omega
  exact ⟨(hw.cell (p := ⟨a, 0, none⟩) ha').trans h0, (hw.cell (p := ⟨a, 1, none⟩) ha').trans h1, Nat.le_trans h2 hw.size, h3.trans (hw.mono h2)⟩
theorem last4 {a b c d : Prop} (H : a ∧ b ∧ c ∧ d) : d := H.2.2.2
end Go.Proofs.YthnngndnpigjbaaGreat
