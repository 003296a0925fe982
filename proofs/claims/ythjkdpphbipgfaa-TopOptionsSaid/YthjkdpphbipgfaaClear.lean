/- The builtin clear; the head of a slice that is owned. Plain: no program in sight. Conditions: none. -/
import Derived.Test.YthjkdpphbipgfaaSl
import Derived.Lib.SliceRun
namespace Go.Proofs.Ythjkdpphbipgfaa
open Go.RowKit Go.Lib

theorem run_clear_any {P : Program} (w : World) (t e ty : TypeId) (z : Value) (ht : P.underlying t = some (.slice e)) (hv : ∀ w, (zeroValue e).run P w = .ok z w) (b o n c : Nat) (hn : 0 < n)
    (h1 : ∀ v ∈ (Builtin.zeroCells z.cells n).toList, v.oneCell' = true)
    (hc : ∀ j, j < (Builtin.zeroCells z.cells n).toList.length → (w.cell? ⟨b, o + j, none⟩).isSome = true) (hf : ∀ j, j < (Builtin.zeroCells z.cells n).toList.length → w.frozen? ⟨b, o + j, none⟩ = false) :
    (Builtin.clear_ #[t] ty #[.slice (some ⟨b, o, none⟩) n c]).run P w = .ok (.tuple #[]) (w.setCells b o (Builtin.zeroCells z.cells n).toList) := by
  have hst := run_storeCells_cells (P := P) b o (Builtin.zeroCells z.cells n).toList 0 w (by simpa using hc) (by simpa using hf) h1
  simp only [Nat.add_zero] at hst
  obtain ⟨m, rfl⟩ : ∃ m, n = m + 1 := ⟨n - 1, by omega⟩
  simp [Builtin.clear_, run_underlying ht, hv, hst]
/-- The head of a slice that is owned, when what lies behind is written over. -/
theorem Sl.cut {w : World} {size g n c : Nat} {xs : List Value} (h : Sl w size (.slice (some ⟨g, 0, none⟩) n c) n xs) (m : Nat) (hm : m ≤ n) (vs : List Value) (hvs : m * size + vs.length ≤ n * size) :
    Sl (w.setCells g (m * size) vs) size (.slice (some ⟨g, 0, none⟩) m c) m (xs.take (m * size)) := by
  rcases h.2 with ⟨hv, _⟩ | ⟨g', cap, hv, hl, h1, h2, h3, h4⟩
  · cases hv
  · injection hv with e1 e2 e3
    injection e1 with e1
    injection e1 with e1 _ _
    subst e1 e3
    have hcap : n * size ≤ c * size := Nat.mul_le_mul_right _ h1
    have hms : m * size ≤ n * size := Nat.mul_le_mul_right _ hm
    have hsome : ∀ j, j < vs.length → (w.cell? ⟨g, m * size + j, none⟩).isSome = true := fun j hj => (h3 _ (by omega)).1
    refine ⟨by rw [List.length_take, h.1]; omega, .inr ⟨g, c, rfl, ?_, by omega, h2, fun j hj => ⟨?_, ?_⟩, fun j u hu => ?_⟩⟩
    · have := (World.keptBut_setCells g (may := fun _ => True) vs (m * size) w (fun _ _ => trivial)).size
      omega
    · by_cases hin : m * size ≤ j ∧ j < m * size + vs.length
      · have := World.cell?_setCells_in g vs (m * size) w hsome (j - m * size) (by omega)
        rw [show m * size + (j - m * size) = j by omega] at this
        rw [this]; rfl
      · rw [World.cell?_setCells_out g _ _ _ _ (fun _ _ => by show j < _ ∨ _ ≤ j; omega)]
        exact (h3 j hj).1
    · exact (World.frozen?_setCells g _ _ _ _).trans (h3 j hj).2
    · have hj : j < m * size := by
        have := (List.getElem?_eq_some_iff.1 hu).1
        rw [List.length_take] at this
        omega
      rw [World.cell?_setCells_out g _ _ _ _ (fun _ _ => by show j < _ ∨ _ ≤ j; left; omega)]
      rw [List.getElem?_take_of_lt hj] at hu
      exact h4 j u hu
theorem KeepK.setCells {K : Nat → Prop} {a w : World} (h : KeepK K a w) (g o : Nat) (vs : List Value) (hK : ∀ i, K i → i < w.heap.size ∧ i ≠ g) : KeepK K a (w.setCells g o vs) :=
  h.trans ⟨World.os_setCells _ _ _ _, tape_setCells g vs o w, World.output_setCells _ _ _ _, (World.keptBut_setCells g (may := fun _ => True) vs o w (fun _ _ => trivial)).size, fun i hi => World.heap_setCells_other w g o vs (hK i hi).1 (hK i hi).2⟩
/-- A slice that is owned, a part of whose cells is written over. -/
theorem Sl.over {w : World} {g n c : Nat} {xs : List Value} (h : Sl w 1 (.slice (some ⟨g, 0, none⟩) n c) n xs) (o : Nat) (vs : List Value) (hvs : o + vs.length ≤ n) :
    Sl (w.setCells g o vs) 1 (.slice (some ⟨g, 0, none⟩) n c) n (xs.take o ++ vs ++ xs.drop (o + vs.length)) := by
  rcases h.2 with ⟨hv, _⟩ | ⟨g', cap, hv, hl, h1, h2, h3, h4⟩
  · cases hv
  · injection hv with e1 e2 e3
    injection e1 with e1
    injection e1 with e1 _ _
    subst e1 e3
    have hlen : xs.length = n := by have := h.1; omega
    have hsome : ∀ j, j < vs.length → (w.cell? ⟨g, o + j, none⟩).isSome = true := fun j hj => (h3 _ (by omega)).1
    refine ⟨by simp; omega, .inr ⟨g, c, rfl, ?_, h1, h2, fun j hj => ⟨?_, ?_⟩, fun j u hu => ?_⟩⟩
    · have := (World.keptBut_setCells g (may := fun _ => True) vs o w (fun _ _ => trivial)).size
      omega
    · by_cases hin : o ≤ j ∧ j < o + vs.length
      · have := World.cell?_setCells_in g vs o w hsome (j - o) (by omega)
        rw [show o + (j - o) = j by omega] at this
        rw [this]; rfl
      · rw [World.cell?_setCells_out g _ _ _ _ (fun _ _ => by show j < _ ∨ _ ≤ j; omega)]
        exact (h3 j hj).1
    · exact (World.frozen?_setCells g _ _ _ _).trans (h3 j hj).2
    · rw [List.append_assoc] at hu
      by_cases hj1 : j < o
      · rw [List.getElem?_append_left (by rw [List.length_take]; omega), List.getElem?_take_of_lt hj1] at hu
        rw [World.cell?_setCells_out g _ _ _ _ (fun _ _ => by show j < _ ∨ _ ≤ j; omega)]
        exact h4 j u hu
      · rw [List.getElem?_append_right (by rw [List.length_take]; omega), List.length_take, Nat.min_eq_left (by omega)] at hu
        by_cases hj2 : j < o + vs.length
        · rw [List.getElem?_append_left (by omega)] at hu
          have := World.cell?_setCells_in g vs o w hsome (j - o) (by omega)
          rw [show o + (j - o) = j by omega] at this
          rw [this]
          exact (List.getElem?_eq_some_iff.1 hu).2 ▸ rfl
        · rw [List.getElem?_append_right (by omega), List.getElem?_drop, show o + vs.length + (j - o - vs.length) = j by omega] at hu
          rw [World.cell?_setCells_out g _ _ _ _ (fun _ _ => by show j < _ ∨ _ ≤ j; omega)]
          exact h4 j u hu
end Go.Proofs.Ythjkdpphbipgfaa
