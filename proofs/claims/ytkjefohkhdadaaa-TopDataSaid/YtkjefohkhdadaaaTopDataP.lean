/- Two rows of numbers beside a writer. Plain laws of memory. Conditions: none. -/
import Derived.Test.YtkjefohkhdadaaaTopDataM
namespace Go.Proofs.Ytkjefohkhdadaaa
open Go.RowKit Go.Lib

theorem info_int1 : (Try.prog.info? 3).map (fun i => (i.zero, i.size, i.bytes)) = some (some (.int .i64 0), 1, 8) := by kernel_rfl

structure DataP (w wx : World) (b mb cnt : Nat) (lb : Bs) (R : Rests) (K : Nat → Prop) (n6 n7 : Nat) (v6 v7 : Value) (xs6 xs7 : List Value) : Prop where
  s6 : Sl wx 1 v6 n6 xs6
  s7 : Sl wx 1 v7 n7 xs7
  ap : ∀ i, v6.ownBlock = some i → v7.ownBlock ≠ some i
  wn : Wn K wx b mb cnt 65536 lb R
  k0 : ∀ i, i < w.heap.size → K i
  k6 : ∀ i, v6.ownBlock = some i → K i ∧ w.heap.size ≤ i
  k7 : ∀ i, v7.ownBlock = some i → K i ∧ w.heap.size ≤ i
  bl : Below w.heap.size w wx
section
variable {w wx w5 : World} {b mb cnt : Nat} {lb : Bs} {R : Rests} {K : Nat → Prop} {n6 n7 : Nat} {v6 v7 v' u : Value} {xs6 xs7 : List Value}
theorem DataP.below (h : DataP w wx b mb cnt lb R K n6 n7 v6 v7 xs6 xs7) (hb : Below wx.heap.size wx w5) : DataP w w5 b mb cnt lb R K n6 n7 v6 v7 xs6 xs7 :=
  ⟨h.s6.below hb fun i hi => h.s6.lt i hi, h.s7.below hb fun i hi => h.s7.lt i hi, h.ap, h.wn.below hb, h.k0, h.k6, h.k7, h.bl.trans (hb.mono h.bl.size)⟩
theorem DataP.turn {cnt' : Nat} {lb' : Bs} {R' : Rests} (h : DataP w wx b mb cnt lb R K n6 n7 v6 v7 xs6 xs7) (hw : Wn K w5 b mb cnt' 65536 lb' R') (hk : KeepK K wx w5) : DataP w w5 b mb cnt' lb' R' K n6 n7 v6 v7 xs6 xs7 :=
  ⟨h.s6.keepK hk fun i hi => (h.k6 i hi).1, h.s7.keepK hk fun i hi => (h.k7 i hi).1, h.ap, hw, h.k0, h.k6, h.k7, h.bl.trans (hk.below h.k0)⟩
theorem DataP.push6 {o : Obj} (h : DataP w wx b mb cnt lb R K n6 n7 v6 v7 xs6 xs7) (hs : Sl w5 1 v' (n6 + 1) (xs6 ++ [u])) (hg : (wx.alloc o).grownBy w5 v6.ownBlock) (hv : v'.ownBlock = v6.ownBlock ∨ v'.ownBlock = some (wx.alloc o).heap.size) :
    DataP w w5 b mb cnt lb R (fun i => K i ∨ (wx.heap.size ≤ i ∧ i < w5.heap.size)) (n6 + 1) n7 v' v7 (xs6 ++ [u]) xs7 := by
  have hk : KeepK (fun i => i < wx.heap.size ∧ ¬ K i) wx w5 := (((KeepK.refl _ wx).alloc (fun i hi => hi.1) _).grown hg (fun i hi => by have := hi.1; simp; omega) (fun i hi e => hi.2 (h.k6 i e.symm).1))
  have hk7 : KeepK (fun i => i < wx.heap.size ∧ v6.ownBlock ≠ some i) wx w5 := (((KeepK.refl _ wx).alloc (fun i hi => hi.1) _).grown hg (fun i hi => by have := hi.1; simp; omega) (fun i hi e => hi.2 e.symm))
  have hsz : wx.heap.size < w5.heap.size := by have := hg.size; simp at this; omega
  have hbs := h.bl.size
  have hnew : ∀ i, (wx.alloc o).heap.size = i → i = wx.heap.size + 1 := fun i hi => by simpa using hi.symm
  refine ⟨hs, h.s7.keepK hk7 fun i hi => ⟨h.s7.lt i hi, fun e => h.ap i e hi⟩, fun i hi e => ?_, h.wn.fresh hk, fun i hi => .inl (h.k0 i hi), fun i hi => ?_, fun i hi => ⟨.inl (h.k7 i hi).1, (h.k7 i hi).2⟩, ?_⟩
  · rcases hv with hv | hv
    · exact h.ap i (hv.symm.trans hi) e
    · have h1 := hnew i (Option.some.inj (hv.symm.trans hi))
      have := h.s7.lt i e
      omega
  · rcases hv with hv | hv
    · have := h.k6 i (hv.symm.trans hi)
      exact ⟨.inl this.1, this.2⟩
    · have h1 := hnew i (Option.some.inj (hv.symm.trans hi))
      exact ⟨.inr ⟨by omega, hs.lt i hi⟩, by omega⟩
  · exact (h.bl.alloc hbs o).grown hg (by simp; omega) (fun i hi => (h.k6 i hi).2)
theorem DataP.push7 {o : Obj} (h : DataP w wx b mb cnt lb R K n6 n7 v6 v7 xs6 xs7) (hs : Sl w5 1 v' (n7 + 1) (xs7 ++ [u])) (hg : (wx.alloc o).grownBy w5 v7.ownBlock) (hv : v'.ownBlock = v7.ownBlock ∨ v'.ownBlock = some (wx.alloc o).heap.size) :
    DataP w w5 b mb cnt lb R (fun i => K i ∨ (wx.heap.size ≤ i ∧ i < w5.heap.size)) n6 (n7 + 1) v6 v' xs6 (xs7 ++ [u]) := by
  have hk : KeepK (fun i => i < wx.heap.size ∧ ¬ K i) wx w5 := (((KeepK.refl _ wx).alloc (fun i hi => hi.1) _).grown hg (fun i hi => by have := hi.1; simp; omega) (fun i hi e => hi.2 (h.k7 i e.symm).1))
  have hk6 : KeepK (fun i => i < wx.heap.size ∧ v7.ownBlock ≠ some i) wx w5 := (((KeepK.refl _ wx).alloc (fun i hi => hi.1) _).grown hg (fun i hi => by have := hi.1; simp; omega) (fun i hi e => hi.2 e.symm))
  have hsz : wx.heap.size < w5.heap.size := by have := hg.size; simp at this; omega
  have hbs := h.bl.size
  have hnew : ∀ i, (wx.alloc o).heap.size = i → i = wx.heap.size + 1 := fun i hi => by simpa using hi.symm
  refine ⟨h.s6.keepK hk6 fun i hi => ⟨h.s6.lt i hi, fun e => h.ap i hi e⟩, hs, fun i hi e => ?_, h.wn.fresh hk, fun i hi => .inl (h.k0 i hi), fun i hi => ⟨.inl (h.k6 i hi).1, (h.k6 i hi).2⟩, fun i hi => ?_, ?_⟩
  · rcases hv with hv | hv
    · exact h.ap i hi (hv.symm.trans e)
    · have h1 := hnew i (Option.some.inj (hv.symm.trans e))
      have := h.s6.lt i hi
      omega
  · rcases hv with hv | hv
    · have := h.k7 i (hv.symm.trans hi)
      exact ⟨.inl this.1, this.2⟩
    · have h1 := hnew i (Option.some.inj (hv.symm.trans hi))
      exact ⟨.inr ⟨by omega, hs.lt i hi⟩, by omega⟩
  · exact (h.bl.alloc hbs o).grown hg (by simp; omega) (fun i hi => (h.k7 i hi).2)
end
/-- What is known while data are written. -/
def DataS (w wx : World) (b mb : Nat) (ts : List Int) (ds : List ByteArray) (es : List (Nat × Nat)) (v6 v7 : Value) (lb : Bs) (R : Rests) (cnt : Nat) : Prop :=
  (∃ K, DataP w wx b mb cnt lb R K es.length es.length v6 v7 (ats es) (kepts es)) ∧ OkR lb R ∧ Laid ts ds lb es ∧ lb.length ≤ 40000
theorem ats_snoc (es : List (Nat × Nat)) (e : Nat × Nat) : ats (es ++ [e]) = ats es ++ [.int .i64 (e.1 : Int)] := by simp [ats]
theorem kepts_snoc (es : List (Nat × Nat)) (e : Nat × Nat) : kepts (es ++ [e]) = kepts es ++ [.int .i64 (e.2 : Int)] := by simp [kepts]
end Go.Proofs.Ytkjefohkhdadaaa
