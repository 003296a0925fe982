/- How much waits; the reference's Next of any queue. Conditions: none. -/
import Derived.Test.YtkdfbmbccopchaaPlaysM
namespace Go.Proofs.Ytkdfbmbccopchaa
open Go.RowKit Go.Lib

theorem next_many : ∀ cl : Cl, manyC (nextQ cl).1 ≤ manyC cl
  | [] => Nat.le_refl _
  | (a, []) :: t => Nat.le_refl _
  | (a, x :: l) :: t => by
    unfold nextQ
    dsimp only
    split
    · rw [manyC_cons]; omega
    · rw [manyC_append, manyC_cons, manyC_cons]; simp [manyC]; omega
theorem drop_many : ∀ (cl : Cl) (a : Int), manyC (dropC cl a) ≤ manyC cl
  | [], _ => Nat.le_refl _
  | p :: t, a => by
    have h := drop_many t a
    unfold dropC at h ⊢
    rw [List.filter_cons]
    split
    · rw [manyC_cons, manyC_cons]; omega
    · rw [manyC_cons]; omega
theorem get_many : ∀ (cl : Cl) (a : Int), (getC cl a).length ≤ manyC cl
  | [], _ => by simp [getC]
  | p :: t, a => by
    have h := get_many t a
    unfold getC
    rw [manyC_cons]
    split <;> omega
theorem put_many (room each : Nat) (cl : Cl) (a id : Int) : manyC (putQ room each cl a id).1 ≤ manyC cl + 1 := by
  unfold putQ
  split
  · dsimp only; omega
  · split
    · dsimp only; omega
    · split
      · dsimp only; omega
      · dsimp only; rw [addC_many]; omega
theorem rNext44 (room each : Int) (A : Option Addr) (n c : Nat) (K : Nat → Prop) (rs : Rw) (w : World) (hR : RQ w K (.slice A n c) n rs) (hok : ∀ p ∈ clOf rs, p.2 ≠ []) (hn : n ≤ 1000000) (hm : manyC (clOf rs) ≤ 1000000) :
    Calls Try.prog 18 #[.agg #[.int .i64 room, .int .i64 each, .slice A n c]] w (RNextPost room each K (clOf rs) w) := by
  cases rs with
  | nil =>
    have h0 : n = 0 := hR.len.symm
    subst h0
    exact rNext_none room each A c K w hR
  | cons q t =>
    obtain ⟨⟨a, ids⟩, v⟩ := q
    cases ids with
    | nil => exact absurd rfl (hok (a, []) (by simp [clOf]))
    | cons x l =>
      have h1 : l.length ≤ 1000000 := by
        have : clOf (((a, x :: l), v) :: t) = (a, x :: l) :: clOf t := rfl
        rw [this, manyC_cons] at hm
        simp at hm; omega
      exact rNext_some room each A n c K a x l v t w hR hn h1
theorem kp5 {V W w' : World} {bx ba : Nat} {x0 x1 x2 y : Option Value} (hx : bx < V.heap.size) (ha : ba < V.heap.size) (H : W.cell? ⟨bx, 0, none⟩ = x0 ∧ W.cell? ⟨bx, 1, none⟩ = x1 ∧ W.cell? ⟨bx, 2, none⟩ = x2 ∧ W.cell? ⟨ba, 1, none⟩ = y ∧ Below V.heap.size V W) (hw : Below W.heap.size W w') :
    w'.cell? ⟨bx, 0, none⟩ = x0 ∧ w'.cell? ⟨bx, 1, none⟩ = x1 ∧ w'.cell? ⟨bx, 2, none⟩ = x2 ∧ w'.cell? ⟨ba, 1, none⟩ = y ∧ Below V.heap.size V w' := by
  have h := H.2.2.2.2.size
  exact ⟨(hw.cell (p := ⟨bx, 0, none⟩) (by show bx < _; omega)).trans H.1, (hw.cell (p := ⟨bx, 1, none⟩) (by show bx < _; omega)).trans H.2.1, (hw.cell (p := ⟨bx, 2, none⟩) (by show bx < _; omega)).trans H.2.2.1, (hw.cell (p := ⟨ba, 1, none⟩) (by show ba < _; omega)).trans H.2.2.2.1, H.2.2.2.2.trans (hw.mono h)⟩
theorem kp5D {V W : World} {bx ba : Nat} {x0 x1 x2 y : Option Value} (H : W.cell? ⟨bx, 0, none⟩ = x0 ∧ W.cell? ⟨bx, 1, none⟩ = x1 ∧ W.cell? ⟨bx, 2, none⟩ = x2 ∧ W.cell? ⟨ba, 1, none⟩ = y ∧ Below V.heap.size V W) :
    W.drew.cell? ⟨bx, 0, none⟩ = x0 ∧ W.drew.cell? ⟨bx, 1, none⟩ = x1 ∧ W.drew.cell? ⟨bx, 2, none⟩ = x2 ∧ W.drew.cell? ⟨ba, 1, none⟩ = y ∧ Below V.heap.size V W.drew := ⟨H.1, H.2.1, H.2.2.1, H.2.2.2.1, H.2.2.2.2.drew⟩
theorem last5 {a b c d e : Prop} (H : a ∧ b ∧ c ∧ d ∧ e) : e := H.2.2.2.2
end Go.Proofs.Ytkdfbmbccopchaa
