/- What stands while sets.build goes over its records. Plain words on memory. Conditions: none. What stands while sets.build picks the data of its set. Plain words on memory. Conditions: none. What stands first of each run in a list that is in order: plain. Conditions: none. A set that sets.Find answers is right: plain. Conditions: none. -/
import Derived.Test.YtfipacfompihkaaIxComp
import Derived.Test.YtfipacfompihkaaRR
import Derived.Test.YtfipacfompihkaaQLow
import Derived.Test.YtfipacfompihkaaSetsM
namespace Go.Proofs.Ytfipacfompihkaa
open Go.RowKit Go.Lib

structure BI (w wr : World) (n : ByteArray) (t ml : Int) (b0 bs Bf : Nat) (Af : Option Addr) (cf : Nat) (Ao : Option Addr) (co : Nat) (fs : List ByteArray) (od : List Nat) : Prop where
  r0 : Blk wr b0 49 #[.string ⟨#[]⟩, .int .u16 0, .int .u32 0, .slice none 0 0]
  s : Blk wr bs 49 #[.string n, .int .u16 t, .int .u32 ml, .slice none 0 0]
  f : Blk wr Bf 47 #[.slice Af fs.length cf]
  fsl : Sl wr 1 (.slice Af fs.length cf) fs.length (fs.map Value.string)
  osl : Sl wr 1 (.slice Ao od.length co) od.length (ixC od)
  bl : Below w.heap.size w wr
  of : ∀ g, (Value.slice Af fs.length cf).ownBlock = some g → w.heap.size ≤ g ∧ g ≠ b0 ∧ g ≠ bs ∧ g ≠ Bf
  oo : ∀ g, (Value.slice Ao od.length co).ownBlock = some g → w.heap.size ≤ g ∧ g ≠ b0 ∧ g ≠ bs ∧ g ≠ Bf
  ne : ∀ g h, (Value.slice Af fs.length cf).ownBlock = some g → (Value.slice Ao od.length co).ownBlock = some h → g ≠ h
  lo : w.heap.size ≤ b0 ∧ w.heap.size ≤ bs ∧ w.heap.size ≤ Bf ∧ b0 ≠ bs ∧ b0 ≠ Bf ∧ bs ≠ Bf
section
variable {w wr W : World} {n : ByteArray} {t ml : Int} {b0 bs Bf : Nat} {Af : Option Addr} {cf : Nat} {Ao : Option Addr} {co : Nat} {fs : List ByteArray} {od : List Nat}
theorem BI.low (h : BI w wr n t ml b0 bs Bf Af cf Ao co fs od) (hb : Below wr.heap.size wr W) : BI w W n t ml b0 bs Bf Af cf Ao co fs od :=
  ⟨h.r0.below hb h.r0.lt, h.s.below hb h.s.lt, h.f.below hb h.f.lt, h.fsl.below hb h.fsl.lt, h.osl.below hb h.osl.lt, h.bl.trans (hb.mono h.bl.size), h.of, h.oo, h.ne, h.lo⟩
theorem BI.min (h : BI w wr n t ml b0 bs Bf Af cf Ao co fs od) (m : Int) : BI w (wr.setCell ⟨bs, 2, none⟩ (.int .u32 m)) n t m b0 bs Bf Af cf Ao co fs od := by
  have h1 := h.s.set_ 2 (.int .u32 m)
  exact ⟨h.r0.far (p := ⟨bs, 2, none⟩) h.lo.2.2.2.1 _, by simpa using h1, h.f.far (p := ⟨bs, 2, none⟩) (fun e => h.lo.2.2.2.2.2 e.symm) _, h.fsl.far (p := ⟨bs, 2, none⟩) (fun g hg => (h.of g hg).2.2.1) _, h.osl.far (p := ⟨bs, 2, none⟩) (fun g hg => (h.oo g hg).2.2.1) _, h.bl.setCell (p := ⟨bs, 2, none⟩) h.lo.2.1 _, h.of, h.oo, h.ne, h.lo⟩
theorem BI.pushF (h : BI w wr n t ml b0 bs Bf Af cf Ao co fs od) {A5 : Option Addr} {c5 : Nat} {x : ByteArray} (hs : Sl W 1 (.slice A5 (fs.length + 1) c5) (fs.length + 1) (fs.map Value.string ++ [.string x])) (hg : wr.grownBy W (Value.slice Af fs.length cf).ownBlock)
    (hv : (Value.slice A5 (fs.length + 1) c5).ownBlock = (Value.slice Af fs.length cf).ownBlock ∨ (Value.slice A5 (fs.length + 1) c5).ownBlock = some wr.heap.size) : BI w (W.setCell ⟨Bf, 0, none⟩ (.slice A5 (fs.length + 1) c5)) n t ml b0 bs Bf A5 c5 Ao co (fs ++ [x]) od := by
  have hl : (fs ++ [x]).length = fs.length + 1 := by simp
  have hf0 := h.r0.lt
  have hf1 := h.s.lt
  have hf2 := h.f.lt
  have hz := h.bl.size
  have ho : ∀ g, (Value.slice A5 (fs.length + 1) c5).ownBlock = some g → w.heap.size ≤ g ∧ g ≠ b0 ∧ g ≠ bs ∧ g ≠ Bf := fun g hg => by
    rcases hv with e | e
    · exact h.of g (by rw [← e]; exact hg)
    · rw [e] at hg; injection hg with hg; omega
  have gn : ∀ i, i < wr.heap.size → (∀ g, (Value.slice Af fs.length cf).ownBlock = some g → i ≠ g) → W.heap[i]? = wr.heap[i]? := fun i hi hne => hg.block i hi (fun e => hne i e.symm rfl)
  refine ⟨?_, ?_, ?_, ?_, ?_, ?_, by rw [hl]; exact ho, h.oo, ?_, h.lo⟩
  · exact Blk.far ((gn b0 hf0 fun g hg e => (h.of g hg).2.1 e.symm).trans h.r0) (p := ⟨Bf, 0, none⟩) h.lo.2.2.2.2.1 _
  · exact Blk.far ((gn bs hf1 fun g hg e => (h.of g hg).2.2.1 e.symm).trans h.s) (p := ⟨Bf, 0, none⟩) h.lo.2.2.2.2.2 _
  · rw [hl]
    have h1 : Blk W Bf 47 #[.slice Af fs.length cf] := (gn Bf hf2 fun g hg e => (h.of g hg).2.2.2 e.symm).trans h.f
    have h2 := h1.set_ 0 (.slice A5 (fs.length + 1) c5)
    simpa using h2
  · rw [hl, List.map_append]
    exact hs.far (p := ⟨Bf, 0, none⟩) (fun g hg => (ho g hg).2.2.2) _
  · refine Sl.far (Sl.keep h.osl hg.size fun g hg2 => gn g (h.osl.lt g hg2) fun g' hg' e => h.ne g' g hg' hg2 e.symm) (p := ⟨Bf, 0, none⟩) (fun g hg => (h.oo g hg).2.2.2) _
  · exact (h.bl.grown hg hz fun g hg => (h.of g hg).1).setCell (p := ⟨Bf, 0, none⟩) h.lo.2.2.1 _
  · intro g k hg1 hk
    rw [hl] at hg1
    rcases hv with e | e
    · exact h.ne g k (by rw [← e]; exact hg1) hk
    · rw [e] at hg1
      injection hg1 with hg1
      have := h.osl.lt k hk
      omega
theorem BI.pushO (h : BI w wr n t ml b0 bs Bf Af cf Ao co fs od) {A5 : Option Addr} {c5 x : Nat} (hs : Sl W 1 (.slice A5 (od.length + 1) c5) (od.length + 1) (ixC od ++ [.int .i64 (x : Int)])) (hg : wr.grownBy W (Value.slice Ao od.length co).ownBlock)
    (hv : (Value.slice A5 (od.length + 1) c5).ownBlock = (Value.slice Ao od.length co).ownBlock ∨ (Value.slice A5 (od.length + 1) c5).ownBlock = some wr.heap.size) : BI w W n t ml b0 bs Bf Af cf A5 c5 fs (od ++ [x]) := by
  have hl : (od ++ [x]).length = od.length + 1 := by simp
  have hf0 := h.r0.lt
  have hf1 := h.s.lt
  have hf2 := h.f.lt
  have hz := h.bl.size
  have ho : ∀ g, (Value.slice A5 (od.length + 1) c5).ownBlock = some g → w.heap.size ≤ g ∧ g ≠ b0 ∧ g ≠ bs ∧ g ≠ Bf := fun g hg => by
    rcases hv with e | e
    · exact h.oo g (by rw [← e]; exact hg)
    · rw [e] at hg; injection hg with hg; omega
  have gn : ∀ i, i < wr.heap.size → (∀ g, (Value.slice Ao od.length co).ownBlock = some g → i ≠ g) → W.heap[i]? = wr.heap[i]? := fun i hi hne => hg.block i hi (fun e => hne i e.symm rfl)
  refine ⟨?_, ?_, ?_, ?_, ?_, ?_, h.of, by rw [hl]; exact ho, ?_, h.lo⟩
  · exact (gn b0 hf0 fun g hg e => (h.oo g hg).2.1 e.symm).trans h.r0
  · exact (gn bs hf1 fun g hg e => (h.oo g hg).2.2.1 e.symm).trans h.s
  · exact (gn Bf hf2 fun g hg e => (h.oo g hg).2.2.2 e.symm).trans h.f
  · exact Sl.keep h.fsl hg.size fun g hg2 => gn g (h.fsl.lt g hg2) fun g' hg' e => h.ne g g' hg2 hg' e
  · rw [hl, ixC_append]
    exact hs
  · exact h.bl.grown hg hz fun g hg => (h.oo g hg).1
  · intro g k hg1 hk
    rw [hl] at hk
    rcases hv with e | e
    · exact h.ne g k hg1 (by rw [← e]; exact hk)
    · rw [e] at hk
      injection hk with hk
      have := h.fsl.lt g hg1
      omega
end
/-- The least time that a list's records may be kept. -/
def minL : List RRec → Int
  | [] => 0
  | r :: l => l.foldl (fun m x => min m x.l) r.l
theorem minL_snoc (l : List RRec) (x : RRec) (h : l ≠ []) : minL (l ++ [x]) = min (minL l) x.l := by
  cases l with
  | nil => exact absurd rfl h
  | cons r l => simp [minL, List.foldl_append]
theorem minL_one (x : RRec) : minL [x] = x.l := rfl
/-- The texts by which records of a set are told apart. -/
def foldsL (t : Int) (L : List RRec) : List ByteArray := L.map fun r => ⟨(foldD t r.d.data.toList).toArray⟩
def pickD (L : List RRec) (ix : List Nat) : List ByteArray := ix.map fun i => (L[i]?.map RRec.d).getD ⟨#[]⟩
end Go.Proofs.Ytfipacfompihkaa

namespace Go.Proofs.Ytfipacfompihkaa
open Go.RowKit Go.Lib

structure BJ (w wr : World) (n : ByteArray) (t ml : Int) (b0 bs g co : Nat) (D : List Nat) (Ad : Option Addr) (cd : Nat) (ds : List ByteArray) : Prop where
  r0 : Blk wr b0 49 #[.string ⟨#[]⟩, .int .u16 0, .int .u32 0, .slice none 0 0]
  s : Blk wr bs 49 #[.string n, .int .u16 t, .int .u32 ml, .slice Ad ds.length cd]
  osl : Sl wr 1 (.slice (some ⟨g, 0, none⟩) D.length co) D.length (ixC D)
  dsl : Sl wr 1 (.slice Ad ds.length cd) ds.length (ds.map Value.string)
  bl : Below w.heap.size w wr
  od : ∀ h, (Value.slice Ad ds.length cd).ownBlock = some h → w.heap.size ≤ h ∧ h ≠ b0 ∧ h ≠ bs ∧ h ≠ g
  lo : w.heap.size ≤ b0 ∧ w.heap.size ≤ bs ∧ b0 ≠ bs ∧ g ≠ b0 ∧ g ≠ bs
section
variable {w wr W : World} {n : ByteArray} {t ml : Int} {b0 bs g co : Nat} {D : List Nat} {Ad : Option Addr} {cd : Nat} {ds : List ByteArray}
theorem BJ.low (h : BJ w wr n t ml b0 bs g co D Ad cd ds) (hb : Below wr.heap.size wr W) : BJ w W n t ml b0 bs g co D Ad cd ds :=
  ⟨h.r0.below hb h.r0.lt, h.s.below hb h.s.lt, h.osl.below hb h.osl.lt, h.dsl.below hb h.dsl.lt, h.bl.trans (hb.mono h.bl.size), h.od, h.lo⟩
theorem BJ.push (h : BJ w wr n t ml b0 bs g co D Ad cd ds) {A5 : Option Addr} {c5 : Nat} {x : ByteArray} (hs : Sl W 1 (.slice A5 (ds.length + 1) c5) (ds.length + 1) (ds.map Value.string ++ [.string x])) (hg : wr.grownBy W (Value.slice Ad ds.length cd).ownBlock)
    (hv : (Value.slice A5 (ds.length + 1) c5).ownBlock = (Value.slice Ad ds.length cd).ownBlock ∨ (Value.slice A5 (ds.length + 1) c5).ownBlock = some wr.heap.size) : BJ w (W.setCell ⟨bs, 3, none⟩ (.slice A5 (ds.length + 1) c5)) n t ml b0 bs g co D A5 c5 (ds ++ [x]) := by
  have hl : (ds ++ [x]).length = ds.length + 1 := by simp
  have hf0 := h.r0.lt
  have hf1 := h.s.lt
  have hfg := h.osl.lt g rfl
  have hz := h.bl.size
  have ho : ∀ k, (Value.slice A5 (ds.length + 1) c5).ownBlock = some k → w.heap.size ≤ k ∧ k ≠ b0 ∧ k ≠ bs ∧ k ≠ g := fun k hk => by
    rcases hv with e | e
    · exact h.od k (by rw [← e]; exact hk)
    · rw [e] at hk; injection hk with hk; omega
  have gn : ∀ i, i < wr.heap.size → (∀ k, (Value.slice Ad ds.length cd).ownBlock = some k → i ≠ k) → W.heap[i]? = wr.heap[i]? := fun i hi hne => hg.block i hi (fun e => hne i e.symm rfl)
  refine ⟨?_, ?_, ?_, ?_, ?_, by rw [hl]; exact ho, h.lo⟩
  · exact Blk.far ((gn b0 hf0 fun k hk e => (h.od k hk).2.1 e.symm).trans h.r0) (p := ⟨bs, 3, none⟩) h.lo.2.2.1 _
  · rw [hl]
    have h1 : Blk W bs 49 #[.string n, .int .u16 t, .int .u32 ml, .slice Ad ds.length cd] := (gn bs hf1 fun k hk e => (h.od k hk).2.2.1 e.symm).trans h.s
    have h2 := h1.set_ 3 (.slice A5 (ds.length + 1) c5)
    simpa using h2
  · refine Sl.far (Sl.keep h.osl hg.size fun k hk => gn k (h.osl.lt k hk) fun k' hk' e => ?_) (p := ⟨bs, 3, none⟩) (fun k hk => ?_) _
    · have e2 : g = k := by injection hk
      exact (h.od k' hk').2.2.2 (by rw [← e, ← e2])
    · have e2 : g = k := by injection hk
      rw [← e2]; exact h.lo.2.2.2.2
  · rw [hl, List.map_append]
    exact hs.far (p := ⟨bs, 3, none⟩) (fun k hk => (ho k hk).2.2.1) _
  · exact (h.bl.grown hg hz fun k hk => (h.od k hk).1).setCell (p := ⟨bs, 3, none⟩) h.lo.2.1 _
end
theorem pickD_take {L : List RRec} {D : List Nat} {j i : Nat} {x : RRec} (hi : D[j]? = some i) (hx : L[i]? = some x) : pickD L (D.take (j + 1)) = pickD L (D.take j) ++ [x.d] := by
  rw [List.take_add_one, hi]
  unfold pickD
  rw [List.map_append]
  show _ ++ [((L[i]?).map RRec.d).getD _] = _
  rw [hx]
  rfl
theorem pickD_len (L : List RRec) (D : List Nat) : (pickD L D).length = D.length := by simp [pickD]
theorem ddX_mem {α κ : Type} [DecidableEq κ] (key : α → κ) : ∀ (l : List α) (pv : Option κ) (x : α), x ∈ ddX key pv l → x ∈ l
  | [], _, x, h => by simp [ddX] at h
  | y :: l, pv, x, h => by
    unfold ddX at h
    split at h
    · exact List.mem_cons_of_mem _ (ddX_mem key l _ x h)
    · rcases List.mem_cons.1 h with rfl | h
      · exact List.mem_cons_self ..
      · exact List.mem_cons_of_mem _ (ddX_mem key l _ x h)
theorem ddX_len {α κ : Type} [DecidableEq κ] (key : α → κ) : ∀ (l : List α) (pv : Option κ), (ddX key pv l).length ≤ l.length
  | [], _ => by simp [ddX]
  | y :: l, pv => by
    have := ddX_len key l (some (key y))
    unfold ddX
    split <;> simp <;> omega
end Go.Proofs.Ytfipacfompihkaa

namespace Go.Proofs.Ytfipacfompihkaa
open Go.RowKit Go.Lib

section
variable {α κ : Type} [DecidableEq κ] {key : α → κ}
theorem ddX_all : ∀ (l : List α) (pv : Option κ) (x : α), x ∈ l → (∃ y ∈ ddX key pv l, key y = key x) ∨ pv = some (key x)
  | [], _, x, h => by cases h
  | y :: l, pv, x, h => by
    unfold ddX
    split
    · rename_i hp
      rcases List.mem_cons.1 h with rfl | h
      · exact .inr hp
      · rcases ddX_all l (some (key y)) x h with h1 | h1
        · exact .inl h1
        · exact .inr (hp.trans h1)
    · rcases List.mem_cons.1 h with rfl | h
      · exact .inl ⟨x, List.mem_cons_self .., rfl⟩
      · rcases ddX_all l (some (key y)) x h with ⟨z, hz, h1⟩ | h1
        · exact .inl ⟨z, List.mem_cons_of_mem _ hz, h1⟩
        · exact .inl ⟨y, List.mem_cons_self .., Option.some.inj h1⟩
theorem ddX_pos {l : List α} (h : 0 < l.length) : 0 < (ddX key none l).length := by
  cases l with
  | nil => simp at h
  | cons y l => simp [ddX]
theorem ddX_rise {c : κ → κ → Int} (T : TotC c) : ∀ (l : List α) (pv : Option κ), l.Pairwise (fun x y => ¬ c (key y) (key x) < 0) → (∀ k, pv = some k → ∀ x ∈ l, ¬ c (key x) k < 0) →
    (ddX key pv l).Pairwise (fun x y => c (key x) (key y) < 0) ∧ ∀ k, pv = some k → ∀ x ∈ ddX key pv l, c k (key x) < 0
  | [], pv, _, _ => by simp [ddX]
  | y :: l, pv, h, hp => by
    have h1 := List.pairwise_cons.1 h
    have ih := ddX_rise T l (some (key y)) h1.2 (fun k hk x hx => by injection hk with hk; rw [← hk]; exact h1.1 x hx)
    unfold ddX
    split
    · rename_i hy
      exact ⟨ih.1, fun k hk x hx => ih.2 k (by rw [← hy]; exact hk) x hx⟩
    · rename_i hy
      refine ⟨List.pairwise_cons.2 ⟨fun x hx => ih.2 (key y) rfl x hx, ih.1⟩, fun k hk x hx => ?_⟩
      have hky : c k (key y) < 0 := by
        have h2 := hp k hk y (List.mem_cons_self ..)
        have h3 := T.anti k (key y)
        have h4 := T.zero k (key y)
        have h5 : ¬ c k (key y) = 0 := fun e => hy (by rw [hk, h4.1 e])
        have h6 := T.anti (key y) k
        omega
      rcases List.mem_cons.1 hx with rfl | hx
      · exact hky
      · exact T.trans _ _ _ hky (ih.2 (key y) rfl x hx)
end
end Go.Proofs.Ytfipacfompihkaa

namespace Go.Proofs.Ytfipacfompihkaa
open Go.RowKit Go.Lib

theorem rise_of_pw : ∀ l : List Bs, l.Pairwise (fun a b => cmpS a b < 0) → riseL l = true
  | [], _ => rfl
  | [_], _ => rfl
  | a :: b :: r, h => by
    have h1 := List.pairwise_cons.1 h
    have h2 := rise_of_pw (b :: r) h1.2
    have h3 := h1.1 b (List.mem_cons_self ..)
    have h4 : ltS a b = true := by
      unfold cmpS at h3
      split at h3
      · assumption
      · split at h3 <;> omega
    simp only [riseL, h4, h2, Bool.true_and]
theorem minL_le : ∀ (L : List RRec) (M : Int), (∀ r ∈ L, r.l ≤ M) → 0 ≤ M → minL L ≤ M
  | [], M, _, h0 => h0
  | r :: l, M, h, _ => by
    show l.foldl (fun m x => min m x.l) r.l ≤ M
    have key : ∀ (l : List RRec) (a : Int), a ≤ M → l.foldl (fun m x => min m x.l) a ≤ M := by
      intro l
      induction l with
      | nil => intro a ha; exact ha
      | cons x l ih => intro a ha; exact ih _ (by show min a x.l ≤ M; omega)
    exact key l r.l (h r (List.mem_cons_self ..))
theorem fold_at {t : Int} {L : List RRec} {i : Nat} (hi : i < L.length) : foldX t ((L[i]?.map RRec.d).getD ⟨#[]⟩) = keyF (foldsL t L) i := by
  have h1 : L[i]? = some L[i] := List.getElem?_eq_getElem hi
  have h2 : (foldsL t L)[i]? = some ⟨(foldD t L[i].d.data.toList).toArray⟩ := by
    unfold foldsL
    rw [List.getElem?_map, h1]
    rfl
  rw [h1, key_at h2]
  show foldX t L[i].d = _
  simp [foldX]
theorem found_ok {n : ByteArray} {t : Int} {L : List RRec} {P : List Nat} {ds : List ByteArray} (h1 : 0 < L.length) (hs : SrtK (keyF (foldsL t L)) cmpS P) (hst : StS (keyF (foldsL t L)) P (List.range L.length)) (hds : ds = pickD L ((ddX (keyF (foldsL t L)) none P).take 64))
    (hn : isName n.data.toList = true) (hl : ∀ r ∈ L, r.l ≤ 2147483647) (hok : ∀ r ∈ L, okD t r.d.data.toList = true) : setOk n t (minL L) ds = true := by
  have hPl : P.length = L.length := by rw [hst.len, List.length_range]
  have hm : ∀ i ∈ (ddX (keyF (foldsL t L)) none P).take 64, i < L.length := fun i hi => List.mem_range.1 (hst.mem (ddX_mem _ _ _ _ (List.mem_of_mem_take hi)))
  have hd0 : 0 < (ddX (keyF (foldsL t L)) none P).length := ddX_pos (by omega)
  have hl2 : ds.length = min 64 (ddX (keyF (foldsL t L)) none P).length := by rw [hds, pickD_len, List.length_take]
  have hall : ds.all (fun x => okD t x.data.toList) = true := by
    rw [List.all_eq_true]
    intro x hx
    rw [hds] at hx
    obtain ⟨i, hi, rfl⟩ := List.mem_map.1 hx
    have h2 := List.getElem?_eq_getElem (hm i hi)
    rw [h2]
    exact hok _ (List.getElem_mem _)
  have hmap : ds.map (foldX t) = ((ddX (keyF (foldsL t L)) none P).take 64).map (keyF (foldsL t L)) := by
    rw [hds]
    unfold pickD
    rw [List.map_map]
    exact List.map_congr_left fun i hi => fold_at (hm i hi)
  have hr : riseL (ds.map (foldX t)) = true := by
    rw [hmap]
    refine rise_of_pw _ ?_
    rw [List.pairwise_map]
    exact ((ddX_rise cmpS_tot P none hs (fun k hk => by cases hk)).1).sublist (List.take_sublist _ _)
  unfold setOk
  rw [hn, hall, hr, decide_eq_true (minL_le L _ hl (by decide)), decide_eq_true (show 0 < ds.length by omega), decide_eq_true (show ds.length ≤ 64 by omega)]
  rfl
theorem found_mem {t : Int} {L : List RRec} {P : List Nat} {ds : List ByteArray} (hst : StS (keyF (foldsL t L)) P (List.range L.length)) (hds : ds = pickD L ((ddX (keyF (foldsL t L)) none P).take 64)) : ∀ x ∈ ds, ∃ r ∈ L, x = r.d := fun x hx => by
  rw [hds] at hx
  obtain ⟨i, hi, rfl⟩ := List.mem_map.1 hx
  have h2 := List.getElem?_eq_getElem (List.mem_range.1 (hst.mem (ddX_mem _ _ _ _ (List.mem_of_mem_take hi))))
  exact ⟨_, List.getElem_mem _, by rw [h2]; rfl⟩
theorem found_all {t : Int} {L : List RRec} {P : List Nat} {ds : List ByteArray} (hst : StS (keyF (foldsL t L)) P (List.range L.length)) (hds : ds = pickD L ((ddX (keyF (foldsL t L)) none P).take 64)) (hl : L.length ≤ 64) : ∀ r ∈ L, ∃ x ∈ ds, foldX t x = foldX t r.d := fun r hr => by
  obtain ⟨i, hi, hri⟩ := List.getElem_of_mem hr
  have hPl : P.length = L.length := by rw [hst.len, List.length_range]
  have hiP : i ∈ P := hst.symm.mem (List.mem_range.2 hi)
  rcases ddX_all (key := keyF (foldsL t L)) P none i hiP with ⟨j, hj, he⟩ | h
  · have hjl := List.mem_range.1 (hst.mem (ddX_mem _ _ _ _ hj))
    have hlen := ddX_len (keyF (foldsL t L)) P none
    rw [List.take_of_length_le (by omega)] at hds
    refine ⟨(L[j]?.map RRec.d).getD ⟨#[]⟩, by rw [hds]; exact List.mem_map.2 ⟨j, hj, rfl⟩, ?_⟩
    rw [fold_at hjl, he, ← fold_at hi, List.getElem?_eq_getElem hi, ← hri]
    rfl
  · cases h
end Go.Proofs.Ytfipacfompihkaa
