/- Rows of bytes in memory; the walks of package label's Fold and of the reference's. The walk of package label's Same. -/
import Derived.Test.YtgfpnkakglgokaaRet
import Derived.Test.YtgfpnkakglgokaaCheck
import Derived.Deep.RegionHeld3
namespace Go.Proofs.Ytgfpnkakglgokaa
open Go.RowKit

/-- Block g begins with the bytes l, which may be written. -/
def ByR (w : World) (g : Nat) (l : Bs) : Prop := ∃ C fr, w.heap[g]? = some (.cells C 5 fr) ∧ (∀ (j : Nat) (c : UInt8), l[j]? = some c → C[j]? = some (b8 c)) ∧ ∀ (j : Nat), j < l.length → (decide (fr.1 ≤ j) && decide (j < fr.2)) = false
section
variable {w w' : World} {g : Nat} {l : Bs}
theorem ByR.lt (h : ByR w g l) : g < w.heap.size := by
  obtain ⟨C, fr, h, _⟩ := h
  exact (Array.getElem?_eq_some_iff.1 h).1
theorem ByR.cell (h : ByR w g l) {j : Nat} {c : UInt8} (hj : l[j]? = some c) : w.cell? ⟨g, j, none⟩ = some (.int .u8 (c.toNat : Int)) := by
  obtain ⟨C, fr, h, hc, _⟩ := h
  rw [cell_of_row w g j C _ fr h]
  exact hc j c hj
theorem ByR.frozen (h : ByR w g l) {j : Nat} (hj : j < l.length) : w.frozen? ⟨g, j, none⟩ = false := by
  obtain ⟨C, fr, h, _, hf⟩ := h
  have := hf j hj
  simp only [World.frozen?, h]
  exact this
theorem ByR.keep (h : ByR w g l) (hk : w'.heap[g]? = w.heap[g]?) : ByR w' g l := by
  obtain ⟨C, fr, h, hc⟩ := h
  exact ⟨C, fr, hk.trans h, hc⟩
theorem ByR.drewN (h : ByR w g l) (n : Nat) : ByR (w.drewN n) g l := h
theorem ByR.alloc (h : ByR w g l) (o : Obj) : ByR (w.alloc o) g l := h.keep (Below.heap_alloc w o g h.lt)
theorem ByR.far (h : ByR w g l) {p : Addr} (hp : g ≠ p.block) (u : Value) : ByR (w.setCell p u) g l := h.keep (Below.heap_setCell w p u g hp)
theorem ByR.below {B : Nat} (h : ByR w g l) (hb : Below B w w') (hg : g < B) : ByR w' g l := h.keep (hb.block g hg)
theorem ByR.set_ (h : ByR w g l) (i : Nat) (c : UInt8) : ByR (w.setCell ⟨g, i, none⟩ (.int .u8 (c.toNat : Int))) g (l.set i c) := by
  obtain ⟨C, fr, h, hc, hf⟩ := h
  refine ⟨C.setIfInBounds i (b8 c), fr, ?_, fun j d hd => ?_, fun j hj => hf j (by simpa using hj)⟩
  · simp [World.setCell, Array.getElem?_modify, h, b8]
  · by_cases hij : i = j
    · subst hij
      have hlt : i < l.length := by have := (List.getElem?_eq_some_iff.1 hd).1; simpa using this
      rw [List.getElem?_set_self hlt] at hd
      cases hd
      have hC : i < C.size := (Array.getElem?_eq_some_iff.1 (hc i l[i] (List.getElem?_eq_getElem hlt))).1
      rw [Array.getElem?_setIfInBounds_self_of_lt hC]
    · rw [List.getElem?_set_ne hij] at hd
      rw [Array.getElem?_setIfInBounds_ne hij]
      exact hc j d hd
theorem byR_new (w : World) (s : ByteArray) (cap : Nat) : ByR (w.alloc (.cells (bytesRow s cap) 5 ((bytesRow s cap).size, (bytesRow s cap).size + 1))).drew w.heap.size s.data.toList := by
  refine ⟨bytesRow s cap, _, heap_alloc_new w _, fun j c hj => ?_, fun j hj => ?_⟩
  · have hlt := (List.getElem?_eq_some_iff.1 hj).1
    rw [bytesRow_at s cap j (by simpa using hlt)]
    have : s.data[j]'(by simpa using hlt) = c := by
      have := (List.getElem?_eq_some_iff.1 hj).2
      simpa using this
    rw [this]; rfl
  · have h1 : s.data.toList.length ≤ (bytesRow s cap).size := by simp [bytesRow]
    have : ¬ (bytesRow s cap).size ≤ j := by omega
    simp [this]
theorem byR_own {β : Type} (B : Nat) (f : β → Bs) : Own (fun s W => ByR W B (f s)) := by
  intro s X Y row hs hg hrow
  refine hs.keep ?_
  by_cases e : some B = row
  · obtain ⟨o, ho, hc⟩ := hrow B e.symm
    obtain ⟨C, fr, h, _⟩ := hs
    rw [h] at ho
    cases ho
    cases hc
  · exact hg.block B hs.lt e
/-- What 'string' makes of such a row. -/
theorem ByR.str {P : Program} (h : ByR w g l) {src dst e : TypeId} (cap : Nat) (hs : P.underlying src = some (.slice e)) (he : P.underlying e = some (.int .u8)) (hd : P.underlying dst = some .string) :
    (convert src dst (.slice (some ⟨g, 0, none⟩) l.length cap)).run P w = .ok (.string ⟨l.toArray⟩) w :=
  run_convert_bytes_back w src dst e ⟨g, 0, none⟩ cap l hs he hd (fun j hj => by
    have : (⟨g, 0, none⟩ : Addr).add j = ⟨g, j, none⟩ := by unfold Addr.add; split <;> simp_all
    rw [this]
    exact h.cell (List.getElem?_eq_getElem hj))
end

/-- The first k bytes made small. -/
def foldTo (l : Bs) (k : Nat) : Bs := (l.take k).map lowB ++ l.drop k
theorem foldTo_zero (l : Bs) : foldTo l 0 = l := by simp [foldTo]
theorem foldTo_all (l : Bs) : foldTo l l.length = foldB l := by simp [foldTo, foldB]
theorem foldTo_length (l : Bs) (k : Nat) : (foldTo l k).length = l.length := by simp [foldTo]; omega
theorem foldTo_at {l : Bs} {k : Nat} {c : UInt8} (h : l[k]? = some c) : (foldTo l k)[k]? = some c := by
  have hlt := (List.getElem?_eq_some_iff.1 h).1
  unfold foldTo
  rw [List.getElem?_append_right (by simp; omega)]
  simp only [List.length_map, List.length_take, Nat.min_eq_left (Nat.le_of_lt hlt), Nat.sub_self, List.getElem?_drop, Nat.add_zero]
  exact h
theorem foldTo_succ {l : Bs} {k : Nat} {c : UInt8} (h : l[k]? = some c) : (foldTo l k).set k (lowB c) = foldTo l (k + 1) := by
  obtain ⟨hlt, rfl⟩ := List.getElem?_eq_some_iff.1 h
  unfold foldTo
  rw [List.set_append_right _ _ (by simp; omega)]
  simp only [List.length_map, List.length_take, Nat.min_eq_left (Nat.le_of_lt hlt), Nat.sub_self]
  rw [List.drop_eq_getElem_cons hlt, List.set_cons_zero, List.take_succ_eq_append_getElem hlt, List.map_append, List.append_assoc]
  rfl
theorem foldTo_same {l : Bs} {k : Nat} {c : UInt8} (h : l[k]? = some c) (hc : lowB c = c) : foldTo l k = foldTo l (k + 1) := by
  rw [← foldTo_succ h, hc]
  have h1 := foldTo_at h
  obtain ⟨hlt, h2⟩ := List.getElem?_eq_some_iff.1 h1
  conv => rhs; rw [← h2]
  exact (List.set_getElem_self hlt).symm

end Go.Proofs.Ytgfpnkakglgokaa

namespace Go.Proofs.Ytgfpnkakglgokaa
open Go.RowKit

/-- Are both names, and one? -/
def sameB (a b : Bs) : Bool := decide (a.length = b.length) && (isName a && (isName b && foldB a == foldB b))
theorem toList_mk (l : Bs) : (⟨l.toArray⟩ : ByteArray).toList = l := by rw [ByteArray.toList_eq]
theorem chk_cases (l : Bs) : (isName l = true ∧ chkN l = 0) ∨ (isName l = false ∧ chkN l = 2) := by
  unfold chkN
  cases h : isName l
  · right; exact ⟨rfl, by simp⟩
  · left; exact ⟨rfl, by simp⟩

end Go.Proofs.Ytgfpnkakglgokaa
