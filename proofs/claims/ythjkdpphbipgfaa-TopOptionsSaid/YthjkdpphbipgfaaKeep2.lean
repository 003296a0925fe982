/- Two cells that a drawn region's calls leave as they were; no program in sight. Conditions: none. -/
import Derived.Test.YthjkdpphbipgfaaBase
namespace Go.Proofs.Ythjkdpphbipgfaa
open Go.RowKit

theorem keep2D {V W : World} {a : Nat} {x0 x1 : Option Value}
    (H : W.cell? ⟨a, 0, none⟩ = x0 ∧ W.cell? ⟨a, 1, none⟩ = x1 ∧ V.heap.size ≤ W.heap.size ∧ Below V.heap.size V W) :
    W.drew.cell? ⟨a, 0, none⟩ = x0 ∧ W.drew.cell? ⟨a, 1, none⟩ = x1 ∧ V.heap.size ≤ W.drew.heap.size ∧ Below V.heap.size V W.drew := ⟨H.1, H.2.1, H.2.2.1, H.2.2.2.drew⟩
theorem keep2C {V W w' : World} {a : Nat} {x0 x1 : Option Value} (ha : a < V.heap.size)
    (H : W.cell? ⟨a, 0, none⟩ = x0 ∧ W.cell? ⟨a, 1, none⟩ = x1 ∧ V.heap.size ≤ W.heap.size ∧ Below V.heap.size V W) (hw : Below W.heap.size W w') :
    w'.cell? ⟨a, 0, none⟩ = x0 ∧ w'.cell? ⟨a, 1, none⟩ = x1 ∧ V.heap.size ≤ w'.heap.size ∧ Below V.heap.size V w' := by
  obtain ⟨h0, h1, h2, h3⟩ := H
  have ha' : a < W.heap.size := by omega
  exact ⟨(hw.cell (p := ⟨a, 0, none⟩) ha').trans h0, (hw.cell (p := ⟨a, 1, none⟩) ha').trans h1, Nat.le_trans h2 hw.size, h3.trans (hw.mono h2)⟩
theorem last4 {a b c d : Prop} (H : a ∧ b ∧ c ∧ d) : d := H.2.2.2
end Go.Proofs.Ythjkdpphbipgfaa
