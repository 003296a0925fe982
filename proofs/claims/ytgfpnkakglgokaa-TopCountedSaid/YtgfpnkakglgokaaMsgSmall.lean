/- Messages that are small: plain. Conditions: none. The walk of hardtacklaw06.Small. Conditions: none. -/
import Derived.Test.YtgfpnkakglgokaaRR
import Derived.Shelf.Abstract
import Derived.Test.YtgfpnkakglgokaaRet
import Derived.Deep.LoopGhost
import Derived.Deep.Light
import Derived.Deep.QuietTactic
import Derived.BigQuiet
import Derived.Outline
import Derived.OwnWalk
namespace Go.Proofs.Ytgfpnkakglgokaa
open Go.RowKit Go.Lib

def RRec.small (r : RRec) : Prop := r.n.size ≤ 1000 ∧ r.d.size ≤ 5000
structure MRec.Small (m : MRec) : Prop where
  lq : m.q.length ≤ 20
  ls : m.s.length ≤ 20
  lh : m.h.length ≤ 20
  le : m.e.length ≤ 20
  sq : ∀ e ∈ m.q, e.n.size ≤ 1000
  ss : ∀ e ∈ m.s, e.small
  sh : ∀ e ∈ m.h, e.small
  se : ∀ e ∈ m.e, e.small
theorem take_at {α : Type} {xs : List α} {i : Nat} {x : α} (hi : xs[i]? = some x) : xs.take (i + 1) = xs.take i ++ [x] := by
  obtain ⟨h, rfl⟩ := List.getElem?_eq_some_iff.1 hi
  rw [List.take_succ_eq_append_getElem h]
end Go.Proofs.Ytgfpnkakglgokaa

namespace Go.Proofs.Ytgfpnkakglgokaa
open Go.RowKit Go.Shelf Go.Lib

theorem allr_step {xs : List RRec} {j : Nat} {r : RRec} (h : ∀ e ∈ xs.take j, e.small) (hr : xs[j]? = some r) (hs : r.small) : ∀ e ∈ xs.take (j + 1), e.small := by
  rw [take_at hr]
  intro e he
  rcases List.mem_append.1 he with he | he
  · exact h e he
  · rw [List.mem_singleton.1 he]; exact hs
theorem allq_step {xs : List QRec} {j : Nat} {r : QRec} (h : ∀ e ∈ xs.take j, e.n.size ≤ 1000) (hr : xs[j]? = some r) (hs : r.n.size ≤ 1000) : ∀ e ∈ xs.take (j + 1), e.n.size ≤ 1000 := by
  rw [take_at hr]
  intro e he
  rcases List.mem_append.1 he with he | he
  · exact h e he
  · rw [List.mem_singleton.1 he]; exact hs
def SmallPost (m : MRec) (w : World) (e : Ending) (w' : World) : Prop := (e = .returned (.int .i64 0) ∨ e = .returned (.int .i64 1) ∧ m.Small) ∧ Below w.heap.size w w'

end Go.Proofs.Ytgfpnkakglgokaa
