/- Messages that are small: plain. Conditions: none. -/
import Derived.Test.YthjkdpphbipgfaaRR
namespace Go.Proofs.Ythjkdpphbipgfaa
open Go.RowKit Go.Lib

def RRec.small (r : RRec) : Prop := r.n.size ≤ 1000 ∧ r.d.size ≤ 5000
structure MRec.Small (m : MRec) : Prop where
  lq : m.q.length ≤ 20
  ls : m.s.length ≤ 20
  lh : m.h.length ≤ 20
  le : m.e.length ≤ 20
  sq : ∀ e ∈ m.q, e.n.size ≤ 1000
  ss : ∀ e ∈ m.s, e.small
  sh : ∀ e ∈ m.h, e.small
  se : ∀ e ∈ m.e, e.small
theorem take_at {α : Type} {xs : List α} {i : Nat} {x : α} (hi : xs[i]? = some x) : xs.take (i + 1) = xs.take i ++ [x] := by
  obtain ⟨h, rfl⟩ := List.getElem?_eq_some_iff.1 hi
  rw [List.take_succ_eq_append_getElem h]
end Go.Proofs.Ythjkdpphbipgfaa
