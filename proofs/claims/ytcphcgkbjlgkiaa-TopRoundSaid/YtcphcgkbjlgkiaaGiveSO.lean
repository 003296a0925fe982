/- A table lies apart from the box of its hash; no program's function in sight. Conditions: none. What lies in memory behind the two boxes of a law about cookies: the hash and the secrets. Conditions: none. -/
import Derived.Test.YtcphcgkbjlgkiaaTab
import Derived.Test.YtcphcgkbjlgkiaaGiveLives
namespace Go.Proofs.Ytcphcgkbjlgkiaa
open Go.RowKit

theorem tab_apart {w : World} {g b off : Nat} {t : TypeId} {i : Bool} {A : Option Addr} {n c : Nat} {ys : List Entry} (hB : Blk w g t #[.bool i, .slice A n c]) (hT : Tab w (some ⟨b, off, none⟩) ys) (hp : 0 < ys.length) : b ≠ g := by
  rintro rfl
  obtain ⟨b', o', hA, _, hc⟩ := hT.2 hp
  injection hA with hA
  injection hA with h1 h2
  subst h1 h2
  have h0 := hc 0 ys[0] (List.getElem?_eq_getElem hp) 0 _ rfl
  have h1 := hB.cell (off + 0 * 3 + 0)
  rw [h0] at h1
  match off, h1 with
  | 0, h1 => simp [Entry.vs] at h1
  | 1, h1 => simp [Entry.vs] at h1
  | k + 2, h1 => simp at h1
end Go.Proofs.Ytcphcgkbjlgkiaa

namespace Go.Proofs.Ytcphcgkbjlgkiaa
open Go.RowKit

/-! The walk -/
def SO (w : World) (i : Bool) (A : Option Addr) (n m : Nat) (xs : List Entry) (sn sw : ByteArray) (W : World) : Prop :=
  Blk W w.heap.size 27 #[.bool i, .slice A n m] ∧ Blk W (w.heap.size + 1) 59 #[.string sn, .string sw] ∧ Below w.heap.size w W ∧ Tab W A xs
section
variable {w W W' : World} {i : Bool} {A : Option Addr} {n m : Nat} {xs : List Entry} {sn sw : ByteArray}
theorem SO.next (h : SO w i A n m xs sn sw W) (hb : Below W.heap.size W W') : SO w i A n m xs sn sw W' :=
  ⟨h.1.below hb h.1.lt, h.2.1.below hb h.2.1.lt, h.2.2.1.trans (hb.mono h.2.2.1.size), h.2.2.2.below hb⟩
theorem SO.tab (h : SO w i A n m xs sn sw W) : Tab W A xs := h.2.2.2
theorem SO.start (i : Bool) (A : Option Addr) (n m : Nat) (sn sw : ByteArray) (hT : Tab w A xs) :
    SO w i A n m xs sn sw ((w.alloc (.cells #[.bool i, .slice A n m] 27)).alloc (.cells #[.string sn, .string sw] 59)) := by
  have hb := box2_below w (.cells #[.bool i, .slice A n m] 27) (.cells #[.string sn, .string sw] 59)
  refine ⟨(Blk.new w _ _).alloc _, ?_, hb, hT.below hb⟩
  have := Blk.new (w.alloc (.cells #[.bool i, .slice A n m] 27)) 59 #[.string sn, .string sw]
  rw [World.size_alloc] at this
  exact this
theorem SO.ideal (h : SO w i A n m xs sn sw W) : SO w true A n m xs sn sw (W.setCell ⟨w.heap.size, 0, none⟩ (.bool true)) := by
  obtain ⟨h1, h2, h3, h4⟩ := h
  refine ⟨h1.set_ 0 _, h2.far (p := ⟨w.heap.size, 0, none⟩) (by show w.heap.size + 1 ≠ w.heap.size; omega) _, h3.setCell (p := ⟨w.heap.size, 0, none⟩) (Nat.le_refl _) _, ?_⟩
  rcases Nat.eq_zero_or_pos xs.length with h0 | hp
  · rw [List.eq_nil_of_length_eq_zero h0]; exact tab_nil _ _
  · obtain ⟨b', off, rfl, _, _⟩ := h4.2 hp
    exact h4.far (fun e => tab_apart h1 h4 hp e.symm) _
end
end Go.Proofs.Ytcphcgkbjlgkiaa
