/- A table lies apart from the box of its hash; no program's function in sight. Conditions: none. -/
import Derived.Test.YtcphcgkbjlgkiaaTab
namespace Go.Proofs.Ytcphcgkbjlgkiaa
open Go.RowKit

theorem tab_apart {w : World} {g b off : Nat} {t : TypeId} {i : Bool} {A : Option Addr} {n c : Nat} {ys : List Entry} (hB : Blk w g t #[.bool i, .slice A n c]) (hT : Tab w (some ⟨b, off, none⟩) ys) (hp : 0 < ys.length) : b ≠ g := by
  rintro rfl
  obtain ⟨b', o', hA, _, hc⟩ := hT.2 hp
  injection hA with hA
  injection hA with h1 h2
  subst h1 h2
  have h0 := hc 0 ys[0] (List.getElem?_eq_getElem hp) 0 _ rfl
  have h1 := hB.cell (off + 0 * 3 + 0)
  rw [h0] at h1
  match off, h1 with
  | 0, h1 => simp [Entry.vs] at h1
  | 1, h1 => simp [Entry.vs] at h1
  | k + 2, h1 => simp at h1
end Go.Proofs.Ytcphcgkbjlgkiaa
