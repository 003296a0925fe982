/- The law KeyedApart, walked. -/
import Derived.Test.YtcphcgkbjlgkiaaKeyedPutL
namespace Go.Proofs.Ytcphcgkbjlgkiaa
open Go.RowKit Go.Lib

/-! ### Plain -/
theorem ap_found {xs : List Entry} {k s : ByteArray} (h : Ap xs) : (findN (Entry.is k s) xs != 0) = xs.any (Entry.is k s) := by
  rcases idxOf_cases (Entry.is k s) xs with ⟨_, h1, h2⟩ | ⟨p, e, _, hp, h1, _, h2⟩
  · rw [h1, h2]; rfl
  · rw [h1, h2]
    have := (h.2 p e (List.getElem?_eq_some_iff.1 hp).1 hp).1
    simpa using this
theorem is_congr {k s k2 s2 : ByteArray} (h1 : k.toList = k2.toList) (h2 : s.toList = s2.toList) : Entry.is k s = Entry.is k2 s2 := by
  funext e; unfold Entry.is; rw [h1, h2]
theorem ap_one {xs : List Entry} {k s k2 s2 : ByteArray} (h : Ap xs) :
    (findN (Entry.is k s) xs == findN (Entry.is k2 s2) xs) = ((k.toList == k2.toList && s.toList == s2.toList) || (!xs.any (Entry.is k s) && !xs.any (Entry.is k2 s2))) := by
  by_cases hone : k.toList = k2.toList ∧ s.toList = s2.toList
  · rw [is_congr hone.1 hone.2]
    simp [hone.1, hone.2]
  · have h0 : (k.toList == k2.toList && s.toList == s2.toList) = false := by
      rw [Bool.and_eq_false_iff, beq_eq_false_iff_ne, beq_eq_false_iff_ne]
      by_cases h1 : k.toList = k2.toList
      · right; exact fun h2 => hone ⟨h1, h2⟩
      · left; exact h1
    rw [h0, Bool.false_or]
    rcases idxOf_cases (Entry.is k s) xs with ⟨_, h1, h2⟩ | ⟨p, e, _, hp, h1, hie, h2⟩ <;> rcases idxOf_cases (Entry.is k2 s2) xs with ⟨_, g1, g2⟩ | ⟨q, f, _, hq, g1, gie, g2⟩
    · rw [h1, h2, g1, g2]; rfl
    · rw [h1, h2, g1, g2]
      have := (h.2 q f (List.getElem?_eq_some_iff.1 hq).1 hq).1
      simp only [Bool.not_false, Bool.not_true, Bool.and_false, beq_eq_false_iff_ne]
      exact fun h => this h.symm
    · rw [h1, h2, g1, g2]
      have := (h.2 p e (List.getElem?_eq_some_iff.1 hp).1 hp).1
      simp only [Bool.not_true, Bool.false_and, beq_eq_false_iff_ne]
      exact this
    · rw [h1, h2, g1, g2]
      simp only [Bool.not_true, Bool.false_and, beq_eq_false_iff_ne]
      have lp := (List.getElem?_eq_some_iff.1 hp).1
      have lq := (List.getElem?_eq_some_iff.1 hq).1
      rcases Nat.lt_trichotomy p q with hlt | heq | hlt
      · exact (h.2 q f lq hq).2 p e hlt hp
      · subst heq
        rw [hp] at hq
        cases hq
        exfalso
        unfold Entry.is at hie gie
        rw [Bool.and_eq_true, beq_iff_eq, beq_iff_eq] at hie gie
        exact hone ⟨hie.1.symm.trans gie.1, hie.2.symm.trans gie.2⟩
      · exact fun he => (h.2 p e lp hp).2 q f hlt hq he.symm

theorem keepE {V W w' : World} {a g p q : Nat} {x0 x1 y0 y1 z0 z1 : Option Value} (ha : a < V.heap.size) (hg : g < V.heap.size)
    (H : W.cell? ⟨a, 0, none⟩ = x0 ∧ W.cell? ⟨a, 1, none⟩ = x1 ∧ W.cell? ⟨g, p, none⟩ = y0 ∧ W.cell? ⟨g, p + 1, none⟩ = y1 ∧ W.cell? ⟨g, q, none⟩ = z0 ∧ W.cell? ⟨g, q + 1, none⟩ = z1 ∧ V.heap.size ≤ W.heap.size ∧ Below V.heap.size V W) (hw : Below W.heap.size W w') :
    w'.cell? ⟨a, 0, none⟩ = x0 ∧ w'.cell? ⟨a, 1, none⟩ = x1 ∧ w'.cell? ⟨g, p, none⟩ = y0 ∧ w'.cell? ⟨g, p + 1, none⟩ = y1 ∧ w'.cell? ⟨g, q, none⟩ = z0 ∧ w'.cell? ⟨g, q + 1, none⟩ = z1 ∧ V.heap.size ≤ w'.heap.size ∧ Below V.heap.size V w' := by
  obtain ⟨h0, h1, h2, h3, h4, h5, h6, h7⟩ := H
  have ha' : a < W.heap.size := by omega
  have hg' : g < W.heap.size := by omega
  exact ⟨(hw.cell (p := ⟨a, 0, none⟩) ha').trans h0, (hw.cell (p := ⟨a, 1, none⟩) ha').trans h1, (hw.cell (p := ⟨g, p, none⟩) hg').trans h2, (hw.cell (p := ⟨g, p + 1, none⟩) hg').trans h3, (hw.cell (p := ⟨g, q, none⟩) hg').trans h4, (hw.cell (p := ⟨g, q + 1, none⟩) hg').trans h5, Nat.le_trans h6 hw.size, h7.trans (hw.mono h6)⟩
theorem keepF {V W : World} {a g p q : Nat} {x0 x1 y0 y1 z0 z1 : Option Value}
    (H : W.cell? ⟨a, 0, none⟩ = x0 ∧ W.cell? ⟨a, 1, none⟩ = x1 ∧ W.cell? ⟨g, p, none⟩ = y0 ∧ W.cell? ⟨g, p + 1, none⟩ = y1 ∧ W.cell? ⟨g, q, none⟩ = z0 ∧ W.cell? ⟨g, q + 1, none⟩ = z1 ∧ V.heap.size ≤ W.heap.size ∧ Below V.heap.size V W) :
    W.drew.cell? ⟨a, 0, none⟩ = x0 ∧ W.drew.cell? ⟨a, 1, none⟩ = x1 ∧ W.drew.cell? ⟨g, p, none⟩ = y0 ∧ W.drew.cell? ⟨g, p + 1, none⟩ = y1 ∧ W.drew.cell? ⟨g, q, none⟩ = z0 ∧ W.drew.cell? ⟨g, q + 1, none⟩ = z1 ∧ V.heap.size ≤ W.drew.heap.size ∧ Below V.heap.size V W.drew :=
  ⟨H.1, H.2.1, H.2.2.1, H.2.2.2.1, H.2.2.2.2.1, H.2.2.2.2.2.1, H.2.2.2.2.2.2.1, H.2.2.2.2.2.2.2.drew⟩

end Go.Proofs.Ytcphcgkbjlgkiaa
