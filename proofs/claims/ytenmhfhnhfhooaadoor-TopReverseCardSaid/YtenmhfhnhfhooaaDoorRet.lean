/- Small lemmas that both halves of the proofs use; no program in sight. Conditions: none. -/
import Derived.Test.YtenmhfhnhfhooaaDoorBase
import Derived.RangeFuncNested
import Derived.RangeFuncFrom
namespace Go.Proofs.YtenmhfhnhfhooaaDoor
open Go.RowKit

theorem ret_b {a b : Bool} (h : a = b) : Ending.returned (.bool a) = .returned (.bool b) := by rw [h]
theorem ret_i {k : IntKind} {a b : Int} (h : a = b) : Ending.returned (.int k a) = .returned (.int k b) := by rw [h]
/-- A byte in memory. -/
def b8 (c : UInt8) : Value := .int .u8 (c.toNat : Int)
theorem kp_b {w : World} {Bn : Nat} (hB : Bn < w.heap.size) (W : World) (l : Nat) (o o' : Obj) (hl : w.heap.size ≤ l) (_ : W.heap[l]? = some o) (_ : o.isCells = false) (_ : o.isWalk = false) :
    (W.putObj l o').cell? ⟨Bn, 0, none⟩ = W.cell? ⟨Bn, 0, none⟩ :=
  World.cell?_of_block (World.putObj_heap_other (show Bn ≠ l by omega))
theorem blk_own {β : Type} (B : Nat) (t : TypeId) (f : β → Array Value) : Own (fun s W => Blk W B t (f s)) := by
  intro s X Y row hs hg hrow
  refine hs.grown hg (fun e => ?_)
  obtain ⟨o, ho, hc⟩ := hrow B e.symm
  have : X.heap[B]? = some (.cells (f s) t (0, 0)) := hs
  rw [this] at ho
  cases ho
  cases hc
theorem keeps_below {W W' : World} (hb : Below W.heap.size W W') : KeepsOthers W W' :=
  ⟨hb.size, fun k _ hk _ => (hb.block k (Array.getElem?_eq_some_iff.1 hk).1).trans hk⟩
end Go.Proofs.YtenmhfhnhfhooaaDoor
