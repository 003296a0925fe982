/- What stands while sets.build goes over its records. Plain words on memory. Conditions: none. What stands while sets.build picks the data of its set. Plain words on memory. Conditions: none. What stands first of each run in a list that is in order: plain. Conditions: none. A set that sets.Find answers is right: plain. Conditions: none. The walk of sets.build. Conditions: none. -/
import Derived.Test.YthnngndnpigjbaaGreatIxComp
import Derived.Test.YthnngndnpigjbaaGreatRR
import Derived.Test.YthnngndnpigjbaaGreatQLow
import Derived.Test.YthnngndnpigjbaaGreatSetsM
import Derived.Test.YthnngndnpigjbaaGreatCollS
import Derived.Laws.EntriesVeiled
import Derived.Laws.MakeOwn
import Derived.Deep.DeepCutAuto
import Derived.Deep.RegionWith
import Derived.Deep.RegionLaw
namespace Go.Proofs.YthnngndnpigjbaaGreat
open Go.RowKit Go.Lib

structure BI (w wr : World) (n : ByteArray) (t ml : Int) (b0 bs Bf : Nat) (Af : Option Addr) (cf : Nat) (Ao : Option Addr) (co : Nat) (fs : List ByteArray) (od : List Nat) : Prop where
  r0 : Blk wr b0 36 #[.string ⟨#[]⟩, .int .u16 0, .int .u32 0, .slice none 0 0]
  s : Blk wr bs 36 #[.string n, .int .u16 t, .int .u32 ml, .slice none 0 0]
  f : Blk wr Bf 34 #[.slice Af fs.length cf]
  fsl : Sl wr 1 (.slice Af fs.length cf) fs.length (fs.map Value.string)
  osl : Sl wr 1 (.slice Ao od.length co) od.length (ixC od)
  bl : Below w.heap.size w wr
  of : ∀ g, (Value.slice Af fs.length cf).ownBlock = some g → w.heap.size ≤ g ∧ g ≠ b0 ∧ g ≠ bs ∧ g ≠ Bf
  oo : ∀ g, (Value.slice Ao od.length co).ownBlock = some g → w.heap.size ≤ g ∧ g ≠ b0 ∧ g ≠ bs ∧ g ≠ Bf
  ne : ∀ g h, (Value.slice Af fs.length cf).ownBlock = some g → (Value.slice Ao od.length co).ownBlock = some h → g ≠ h
  lo : w.heap.size ≤ b0 ∧ w.heap.size ≤ bs ∧ w.heap.size ≤ Bf ∧ b0 ≠ bs ∧ b0 ≠ Bf ∧ bs ≠ Bf
section
variable {w wr W : World} {n : ByteArray} {t ml : Int} {b0 bs Bf : Nat} {Af : Option Addr} {cf : Nat} {Ao : Option Addr} {co : Nat} {fs : List ByteArray} {od : List Nat}
theorem BI.low (h : BI w wr n t ml b0 bs Bf Af cf Ao co fs od) (hb : Below wr.heap.size wr W) : BI w W n t ml b0 bs Bf Af cf Ao co fs od :=
  ⟨h.r0.below hb h.r0.lt, h.s.below hb h.s.lt, h.f.below hb h.f.lt, h.fsl.below hb h.fsl.lt, h.osl.below hb h.osl.lt, h.bl.trans (hb.mono h.bl.size), h.of, h.oo, h.ne, h.lo⟩
theorem BI.min (h : BI w wr n t ml b0 bs Bf Af cf Ao co fs od) (m : Int) : BI w (wr.setCell ⟨bs, 2, none⟩ (.int .u32 m)) n t m b0 bs Bf Af cf Ao co fs od := by
  have h1 := h.s.set_ 2 (.int .u32 m)
  exact ⟨h.r0.far (p := ⟨bs, 2, none⟩) h.lo.2.2.2.1 _, by simpa using h1, h.f.far (p := ⟨bs, 2, none⟩) (fun e => h.lo.2.2.2.2.2 e.symm) _, h.fsl.far (p := ⟨bs, 2, none⟩) (fun g hg => (h.of g hg).2.2.1) _, h.osl.far (p := ⟨bs, 2, none⟩) (fun g hg => (h.oo g hg).2.2.1) _, h.bl.setCell (p := ⟨bs, 2, none⟩) h.lo.2.1 _, h.of, h.oo, h.ne, h.lo⟩
theorem BI.pushF (h : BI w wr n t ml b0 bs Bf Af cf Ao co fs od) {A5 : Option Addr} {c5 : Nat} {x : ByteArray} (hs : Sl W 1 (.slice A5 (fs.length + 1) c5) (fs.length + 1) (fs.map Value.string ++ [.string x])) (hg : wr.grownBy W (Value.slice Af fs.length cf).ownBlock)
    (hv : (Value.slice A5 (fs.length + 1) c5).ownBlock = (Value.slice Af fs.length cf).ownBlock ∨ (Value.slice A5 (fs.length + 1) c5).ownBlock = some wr.heap.size) : BI w (W.setCell ⟨Bf, 0, none⟩ (.slice A5 (fs.length + 1) c5)) n t ml b0 bs Bf A5 c5 Ao co (fs ++ [x]) od := by
  have hl : (fs ++ [x]).length = fs.length + 1 := by simp
  have hf0 := h.r0.lt
  have hf1 := h.s.lt
  have hf2 := h.f.lt
  have hz := h.bl.size
  have ho : ∀ g, (Value.slice A5 (fs.length + 1) c5).ownBlock = some g → w.heap.size ≤ g ∧ g ≠ b0 ∧ g ≠ bs ∧ g ≠ Bf := fun g hg => by
    rcases hv with e | e
    · exact h.of g (by rw [← e]; exact hg)
    · rw [e] at hg; injection hg with hg; omega
  have gn : ∀ i, i < wr.heap.size → (∀ g, (Value.slice Af fs.length cf).ownBlock = some g → i ≠ g) → W.heap[i]? = wr.heap[i]? := fun i hi hne => hg.block i hi (fun e => hne i e.symm rfl)
  refine ⟨?_, ?_, ?_, ?_, ?_, ?_, by rw [hl]; exact ho, h.oo, ?_, h.lo⟩
  · exact Blk.far ((gn b0 hf0 fun g hg e => (h.of g hg).2.1 e.symm).trans h.r0) (p := ⟨Bf, 0, none⟩) h.lo.2.2.2.2.1 _
  · exact Blk.far ((gn bs hf1 fun g hg e => (h.of g hg).2.2.1 e.symm).trans h.s) (p := ⟨Bf, 0, none⟩) h.lo.2.2.2.2.2 _
  · rw [hl]
    have h1 : Blk W Bf 34 #[.slice Af fs.length cf] := (gn Bf hf2 fun g hg e => (h.of g hg).2.2.2 e.symm).trans h.f
    have h2 := h1.set_ 0 (.slice A5 (fs.length + 1) c5)
    simpa using h2
  · rw [hl, List.map_append]
    exact hs.far (p := ⟨Bf, 0, none⟩) (fun g hg => (ho g hg).2.2.2) _
  · refine Sl.far (Sl.keep h.osl hg.size fun g hg2 => gn g (h.osl.lt g hg2) fun g' hg' e => h.ne g' g hg' hg2 e.symm) (p := ⟨Bf, 0, none⟩) (fun g hg => (h.oo g hg).2.2.2) _
  · exact (h.bl.grown hg hz fun g hg => (h.of g hg).1).setCell (p := ⟨Bf, 0, none⟩) h.lo.2.2.1 _
  · intro g k hg1 hk
    rw [hl] at hg1
    rcases hv with e | e
    · exact h.ne g k (by rw [← e]; exact hg1) hk
    · rw [e] at hg1
      injection hg1 with hg1
      have := h.osl.lt k hk
      omega
theorem BI.pushO (h : BI w wr n t ml b0 bs Bf Af cf Ao co fs od) {A5 : Option Addr} {c5 x : Nat} (hs : Sl W 1 (.slice A5 (od.length + 1) c5) (od.length + 1) (ixC od ++ [.int .i64 (x : Int)])) (hg : wr.grownBy W (Value.slice Ao od.length co).ownBlock)
    (hv : (Value.slice A5 (od.length + 1) c5).ownBlock = (Value.slice Ao od.length co).ownBlock ∨ (Value.slice A5 (od.length + 1) c5).ownBlock = some wr.heap.size) : BI w W n t ml b0 bs Bf Af cf A5 c5 fs (od ++ [x]) := by
  have hl : (od ++ [x]).length = od.length + 1 := by simp
  have hf0 := h.r0.lt
  have hf1 := h.s.lt
  have hf2 := h.f.lt
  have hz := h.bl.size
  have ho : ∀ g, (Value.slice A5 (od.length + 1) c5).ownBlock = some g → w.heap.size ≤ g ∧ g ≠ b0 ∧ g ≠ bs ∧ g ≠ Bf := fun g hg => by
    rcases hv with e | e
    · exact h.oo g (by rw [← e]; exact hg)
    · rw [e] at hg; injection hg with hg; omega
  have gn : ∀ i, i < wr.heap.size → (∀ g, (Value.slice Ao od.length co).ownBlock = some g → i ≠ g) → W.heap[i]? = wr.heap[i]? := fun i hi hne => hg.block i hi (fun e => hne i e.symm rfl)
  refine ⟨?_, ?_, ?_, ?_, ?_, ?_, h.of, by rw [hl]; exact ho, ?_, h.lo⟩
  · exact (gn b0 hf0 fun g hg e => (h.oo g hg).2.1 e.symm).trans h.r0
  · exact (gn bs hf1 fun g hg e => (h.oo g hg).2.2.1 e.symm).trans h.s
  · exact (gn Bf hf2 fun g hg e => (h.oo g hg).2.2.2 e.symm).trans h.f
  · exact Sl.keep h.fsl hg.size fun g hg2 => gn g (h.fsl.lt g hg2) fun g' hg' e => h.ne g g' hg2 hg' e
  · rw [hl, ixC_append]
    exact hs
  · exact h.bl.grown hg hz fun g hg => (h.oo g hg).1
  · intro g k hg1 hk
    rw [hl] at hk
    rcases hv with e | e
    · exact h.ne g k hg1 (by rw [← e]; exact hk)
    · rw [e] at hk
      injection hk with hk
      have := h.fsl.lt g hg1
      omega
end
/-- The least time that a list's records may be kept. -/
def minL : List RRec → Int
  | [] => 0
  | r :: l => l.foldl (fun m x => min m x.l) r.l
theorem minL_snoc (l : List RRec) (x : RRec) (h : l ≠ []) : minL (l ++ [x]) = min (minL l) x.l := by
  cases l with
  | nil => exact absurd rfl h
  | cons r l => simp [minL, List.foldl_append]
theorem minL_one (x : RRec) : minL [x] = x.l := rfl
/-- The texts by which records of a set are told apart. -/
def foldsL (t : Int) (L : List RRec) : List ByteArray := L.map fun r => ⟨(foldD t r.d.data.toList).toArray⟩
def pickD (L : List RRec) (ix : List Nat) : List ByteArray := ix.map fun i => (L[i]?.map RRec.d).getD ⟨#[]⟩
end Go.Proofs.YthnngndnpigjbaaGreat

namespace Go.Proofs.YthnngndnpigjbaaGreat
open Go.RowKit Go.Lib

structure BJ (w wr : World) (n : ByteArray) (t ml : Int) (b0 bs g co : Nat) (D : List Nat) (Ad : Option Addr) (cd : Nat) (ds : List ByteArray) : Prop where
  r0 : Blk wr b0 36 #[.string ⟨#[]⟩, .int .u16 0, .int .u32 0, .slice none 0 0]
  s : Blk wr bs 36 #[.string n, .int .u16 t, .int .u32 ml, .slice Ad ds.length cd]
  osl : Sl wr 1 (.slice (some ⟨g, 0, none⟩) D.length co) D.length (ixC D)
  dsl : Sl wr 1 (.slice Ad ds.length cd) ds.length (ds.map Value.string)
  bl : Below w.heap.size w wr
  od : ∀ h, (Value.slice Ad ds.length cd).ownBlock = some h → w.heap.size ≤ h ∧ h ≠ b0 ∧ h ≠ bs ∧ h ≠ g
  lo : w.heap.size ≤ b0 ∧ w.heap.size ≤ bs ∧ b0 ≠ bs ∧ g ≠ b0 ∧ g ≠ bs
section
variable {w wr W : World} {n : ByteArray} {t ml : Int} {b0 bs g co : Nat} {D : List Nat} {Ad : Option Addr} {cd : Nat} {ds : List ByteArray}
theorem BJ.low (h : BJ w wr n t ml b0 bs g co D Ad cd ds) (hb : Below wr.heap.size wr W) : BJ w W n t ml b0 bs g co D Ad cd ds :=
  ⟨h.r0.below hb h.r0.lt, h.s.below hb h.s.lt, h.osl.below hb h.osl.lt, h.dsl.below hb h.dsl.lt, h.bl.trans (hb.mono h.bl.size), h.od, h.lo⟩
theorem BJ.push (h : BJ w wr n t ml b0 bs g co D Ad cd ds) {A5 : Option Addr} {c5 : Nat} {x : ByteArray} (hs : Sl W 1 (.slice A5 (ds.length + 1) c5) (ds.length + 1) (ds.map Value.string ++ [.string x])) (hg : wr.grownBy W (Value.slice Ad ds.length cd).ownBlock)
    (hv : (Value.slice A5 (ds.length + 1) c5).ownBlock = (Value.slice Ad ds.length cd).ownBlock ∨ (Value.slice A5 (ds.length + 1) c5).ownBlock = some wr.heap.size) : BJ w (W.setCell ⟨bs, 3, none⟩ (.slice A5 (ds.length + 1) c5)) n t ml b0 bs g co D A5 c5 (ds ++ [x]) := by
  have hl : (ds ++ [x]).length = ds.length + 1 := by simp
  have hf0 := h.r0.lt
  have hf1 := h.s.lt
  have hfg := h.osl.lt g rfl
  have hz := h.bl.size
  have ho : ∀ k, (Value.slice A5 (ds.length + 1) c5).ownBlock = some k → w.heap.size ≤ k ∧ k ≠ b0 ∧ k ≠ bs ∧ k ≠ g := fun k hk => by
    rcases hv with e | e
    · exact h.od k (by rw [← e]; exact hk)
    · rw [e] at hk; injection hk with hk; omega
  have gn : ∀ i, i < wr.heap.size → (∀ k, (Value.slice Ad ds.length cd).ownBlock = some k → i ≠ k) → W.heap[i]? = wr.heap[i]? := fun i hi hne => hg.block i hi (fun e => hne i e.symm rfl)
  refine ⟨?_, ?_, ?_, ?_, ?_, by rw [hl]; exact ho, h.lo⟩
  · exact Blk.far ((gn b0 hf0 fun k hk e => (h.od k hk).2.1 e.symm).trans h.r0) (p := ⟨bs, 3, none⟩) h.lo.2.2.1 _
  · rw [hl]
    have h1 : Blk W bs 36 #[.string n, .int .u16 t, .int .u32 ml, .slice Ad ds.length cd] := (gn bs hf1 fun k hk e => (h.od k hk).2.2.1 e.symm).trans h.s
    have h2 := h1.set_ 3 (.slice A5 (ds.length + 1) c5)
    simpa using h2
  · refine Sl.far (Sl.keep h.osl hg.size fun k hk => gn k (h.osl.lt k hk) fun k' hk' e => ?_) (p := ⟨bs, 3, none⟩) (fun k hk => ?_) _
    · have e2 : g = k := by injection hk
      exact (h.od k' hk').2.2.2 (by rw [← e, ← e2])
    · have e2 : g = k := by injection hk
      rw [← e2]; exact h.lo.2.2.2.2
  · rw [hl, List.map_append]
    exact hs.far (p := ⟨bs, 3, none⟩) (fun k hk => (ho k hk).2.2.1) _
  · exact (h.bl.grown hg hz fun k hk => (h.od k hk).1).setCell (p := ⟨bs, 3, none⟩) h.lo.2.1 _
end
theorem pickD_take {L : List RRec} {D : List Nat} {j i : Nat} {x : RRec} (hi : D[j]? = some i) (hx : L[i]? = some x) : pickD L (D.take (j + 1)) = pickD L (D.take j) ++ [x.d] := by
  rw [List.take_add_one, hi]
  unfold pickD
  rw [List.map_append]
  show _ ++ [((L[i]?).map RRec.d).getD _] = _
  rw [hx]
  rfl
theorem pickD_len (L : List RRec) (D : List Nat) : (pickD L D).length = D.length := by simp [pickD]
theorem ddX_mem {α κ : Type} [DecidableEq κ] (key : α → κ) : ∀ (l : List α) (pv : Option κ) (x : α), x ∈ ddX key pv l → x ∈ l
  | [], _, x, h => by simp [ddX] at h
  | y :: l, pv, x, h => by
    unfold ddX at h
    split at h
    · exact List.mem_cons_of_mem _ (ddX_mem key l _ x h)
    · rcases List.mem_cons.1 h with rfl | h
      · exact List.mem_cons_self ..
      · exact List.mem_cons_of_mem _ (ddX_mem key l _ x h)
theorem ddX_len {α κ : Type} [DecidableEq κ] (key : α → κ) : ∀ (l : List α) (pv : Option κ), (ddX key pv l).length ≤ l.length
  | [], _ => by simp [ddX]
  | y :: l, pv => by
    have := ddX_len key l (some (key y))
    unfold ddX
    split <;> simp <;> omega
end Go.Proofs.YthnngndnpigjbaaGreat

namespace Go.Proofs.YthnngndnpigjbaaGreat
open Go.RowKit Go.Lib

section
variable {α κ : Type} [DecidableEq κ] {key : α → κ}
theorem ddX_all : ∀ (l : List α) (pv : Option κ) (x : α), x ∈ l → (∃ y ∈ ddX key pv l, key y = key x) ∨ pv = some (key x)
  | [], _, x, h => by cases h
  | y :: l, pv, x, h => by
    unfold ddX
    split
    · rename_i hp
      rcases List.mem_cons.1 h with rfl | h
      · exact .inr hp
      · rcases ddX_all l (some (key y)) x h with h1 | h1
        · exact .inl h1
        · exact .inr (hp.trans h1)
    · rcases List.mem_cons.1 h with rfl | h
      · exact .inl ⟨x, List.mem_cons_self .., rfl⟩
      · rcases ddX_all l (some (key y)) x h with ⟨z, hz, h1⟩ | h1
        · exact .inl ⟨z, List.mem_cons_of_mem _ hz, h1⟩
        · exact .inl ⟨y, List.mem_cons_self .., Option.some.inj h1⟩
theorem ddX_pos {l : List α} (h : 0 < l.length) : 0 < (ddX key none l).length := by
  cases l with
  | nil => simp at h
  | cons y l => simp [ddX]
theorem ddX_rise {c : κ → κ → Int} (T : TotC c) : ∀ (l : List α) (pv : Option κ), l.Pairwise (fun x y => ¬ c (key y) (key x) < 0) → (∀ k, pv = some k → ∀ x ∈ l, ¬ c (key x) k < 0) →
    (ddX key pv l).Pairwise (fun x y => c (key x) (key y) < 0) ∧ ∀ k, pv = some k → ∀ x ∈ ddX key pv l, c k (key x) < 0
  | [], pv, _, _ => by simp [ddX]
  | y :: l, pv, h, hp => by
    have h1 := List.pairwise_cons.1 h
    have ih := ddX_rise T l (some (key y)) h1.2 (fun k hk x hx => by injection hk with hk; rw [← hk]; exact h1.1 x hx)
    unfold ddX
    split
    · rename_i hy
      exact ⟨ih.1, fun k hk x hx => ih.2 k (by rw [← hy]; exact hk) x hx⟩
    · rename_i hy
      refine ⟨List.pairwise_cons.2 ⟨fun x hx => ih.2 (key y) rfl x hx, ih.1⟩, fun k hk x hx => ?_⟩
      have hky : c k (key y) < 0 := by
        have h2 := hp k hk y (List.mem_cons_self ..)
        have h3 := T.anti k (key y)
        have h4 := T.zero k (key y)
        have h5 : ¬ c k (key y) = 0 := fun e => hy (by rw [hk, h4.1 e])
        have h6 := T.anti (key y) k
        omega
      rcases List.mem_cons.1 hx with rfl | hx
      · exact hky
      · exact T.trans _ _ _ hky (ih.2 (key y) rfl x hx)
end
end Go.Proofs.YthnngndnpigjbaaGreat

namespace Go.Proofs.YthnngndnpigjbaaGreat
open Go.RowKit Go.Lib

theorem rise_of_pw : ∀ l : List Bs, l.Pairwise (fun a b => cmpS a b < 0) → riseL l = true
  | [], _ => rfl
  | [_], _ => rfl
  | a :: b :: r, h => by
    have h1 := List.pairwise_cons.1 h
    have h2 := rise_of_pw (b :: r) h1.2
    have h3 := h1.1 b (List.mem_cons_self ..)
    have h4 : ltS a b = true := by
      unfold cmpS at h3
      split at h3
      · assumption
      · split at h3 <;> omega
    simp only [riseL, h4, h2, Bool.true_and]
theorem minL_le : ∀ (L : List RRec) (M : Int), (∀ r ∈ L, r.l ≤ M) → 0 ≤ M → minL L ≤ M
  | [], M, _, h0 => h0
  | r :: l, M, h, _ => by
    show l.foldl (fun m x => min m x.l) r.l ≤ M
    have key : ∀ (l : List RRec) (a : Int), a ≤ M → l.foldl (fun m x => min m x.l) a ≤ M := by
      intro l
      induction l with
      | nil => intro a ha; exact ha
      | cons x l ih => intro a ha; exact ih _ (by show min a x.l ≤ M; omega)
    exact key l r.l (h r (List.mem_cons_self ..))
theorem fold_at {t : Int} {L : List RRec} {i : Nat} (hi : i < L.length) : foldX t ((L[i]?.map RRec.d).getD ⟨#[]⟩) = keyF (foldsL t L) i := by
  have h1 : L[i]? = some L[i] := List.getElem?_eq_getElem hi
  have h2 : (foldsL t L)[i]? = some ⟨(foldD t L[i].d.data.toList).toArray⟩ := by
    unfold foldsL
    rw [List.getElem?_map, h1]
    rfl
  rw [h1, key_at h2]
  show foldX t L[i].d = _
  simp [foldX]
theorem found_ok {n : ByteArray} {t : Int} {L : List RRec} {P : List Nat} {ds : List ByteArray} (h1 : 0 < L.length) (hs : SrtK (keyF (foldsL t L)) cmpS P) (hst : StS (keyF (foldsL t L)) P (List.range L.length)) (hds : ds = pickD L ((ddX (keyF (foldsL t L)) none P).take 64))
    (hn : isName n.data.toList = true) (hl : ∀ r ∈ L, r.l ≤ 2147483647) (hok : ∀ r ∈ L, okD t r.d.data.toList = true) : setOk n t (minL L) ds = true := by
  have hPl : P.length = L.length := by rw [hst.len, List.length_range]
  have hm : ∀ i ∈ (ddX (keyF (foldsL t L)) none P).take 64, i < L.length := fun i hi => List.mem_range.1 (hst.mem (ddX_mem _ _ _ _ (List.mem_of_mem_take hi)))
  have hd0 : 0 < (ddX (keyF (foldsL t L)) none P).length := ddX_pos (by omega)
  have hl2 : ds.length = min 64 (ddX (keyF (foldsL t L)) none P).length := by rw [hds, pickD_len, List.length_take]
  have hall : ds.all (fun x => okD t x.data.toList) = true := by
    rw [List.all_eq_true]
    intro x hx
    rw [hds] at hx
    obtain ⟨i, hi, rfl⟩ := List.mem_map.1 hx
    have h2 := List.getElem?_eq_getElem (hm i hi)
    rw [h2]
    exact hok _ (List.getElem_mem _)
  have hmap : ds.map (foldX t) = ((ddX (keyF (foldsL t L)) none P).take 64).map (keyF (foldsL t L)) := by
    rw [hds]
    unfold pickD
    rw [List.map_map]
    exact List.map_congr_left fun i hi => fold_at (hm i hi)
  have hr : riseL (ds.map (foldX t)) = true := by
    rw [hmap]
    refine rise_of_pw _ ?_
    rw [List.pairwise_map]
    exact ((ddX_rise cmpS_tot P none hs (fun k hk => by cases hk)).1).sublist (List.take_sublist _ _)
  unfold setOk
  rw [hn, hall, hr, decide_eq_true (minL_le L _ hl (by decide)), decide_eq_true (show 0 < ds.length by omega), decide_eq_true (show ds.length ≤ 64 by omega)]
  rfl
theorem found_mem {t : Int} {L : List RRec} {P : List Nat} {ds : List ByteArray} (hst : StS (keyF (foldsL t L)) P (List.range L.length)) (hds : ds = pickD L ((ddX (keyF (foldsL t L)) none P).take 64)) : ∀ x ∈ ds, ∃ r ∈ L, x = r.d := fun x hx => by
  rw [hds] at hx
  obtain ⟨i, hi, rfl⟩ := List.mem_map.1 hx
  have h2 := List.getElem?_eq_getElem (List.mem_range.1 (hst.mem (ddX_mem _ _ _ _ (List.mem_of_mem_take hi))))
  exact ⟨_, List.getElem_mem _, by rw [h2]; rfl⟩
theorem found_all {t : Int} {L : List RRec} {P : List Nat} {ds : List ByteArray} (hst : StS (keyF (foldsL t L)) P (List.range L.length)) (hds : ds = pickD L ((ddX (keyF (foldsL t L)) none P).take 64)) (hl : L.length ≤ 64) : ∀ r ∈ L, ∃ x ∈ ds, foldX t x = foldX t r.d := fun r hr => by
  obtain ⟨i, hi, hri⟩ := List.getElem_of_mem hr
  have hPl : P.length = L.length := by rw [hst.len, List.length_range]
  have hiP : i ∈ P := hst.symm.mem (List.mem_range.2 hi)
  rcases ddX_all (key := keyF (foldsL t L)) P none i hiP with ⟨j, hj, he⟩ | h
  · have hjl := List.mem_range.1 (hst.mem (ddX_mem _ _ _ _ hj))
    have hlen := ddX_len (keyF (foldsL t L)) P none
    rw [List.take_of_length_le (by omega)] at hds
    refine ⟨(L[j]?.map RRec.d).getD ⟨#[]⟩, by rw [hds]; exact List.mem_map.2 ⟨j, hj, rfl⟩, ?_⟩
    rw [fold_at hjl, he, ← fold_at hi, List.getElem?_eq_getElem hi, ← hri]
    rfl
  · cases h
end Go.Proofs.YthnngndnpigjbaaGreat

namespace Go.Proofs.YthnngndnpigjbaaGreat
open Go.RowKit Go.Lib

theorem info_intB : (Tryz.prog.info? 3).map (fun i => (i.zero, i.size, i.bytes)) = some (some (.int .i64 0), 1, 8) := by kernel_rfl
theorem info3 {t : TypeId} {z : Value} {s b : Nat} (h : (Tryz.prog.info? t).map (fun i => (i.zero, i.size, i.bytes)) = some (some z, s, b)) : ∃ i, Tryz.prog.info? t = some i ∧ i.zero = some z ∧ i.size = s ∧ i.bytes = b := by
  cases hi : Tryz.prog.info? t with
  | none => rw [hi] at h; cases h
  | some i => rw [hi] at h; simp at h; exact ⟨i, rfl, h.1, h.2.1, h.2.2⟩
theorem min_next {L : List RRec} {r x : RRec} {k : Nat} {ml mm : Int} (hr : L[0]? = some r) (hx : L[k]? = some x) (h : (k = 0 → ml = r.l) ∧ (0 < k → ml = minL (L.take k)) ∧ 0 ≤ ml ∧ ml ≤ 4294967295) (hd : 0 ≤ x.l ∧ x.l ≤ 4294967295) (hm : min ml x.l = mm) : (k + 1 = 0 → mm = r.l) ∧ (0 < k + 1 → mm = minL (L.take (k + 1))) ∧ 0 ≤ mm ∧ mm ≤ 4294967295 := by
  obtain ⟨h1, h2, h3, h4⟩ := h
  obtain ⟨d1, d2⟩ := hd
  have em : mm = ml ∨ mm = x.l := by omega
  refine ⟨fun e => by omega, fun _ => ?_, by rcases em with e | e <;> omega, by rcases em with e | e <;> omega⟩
  rw [List.take_add_one, hx]
  by_cases hk : k = 0
  · subst hk
    rw [hr] at hx
    injection hx with hx
    subst hx
    rw [h1 rfl] at hm
    show mm = minL ([] ++ [r])
    rw [← hm]
    show min r.l r.l = r.l
    omega
  · show mm = minL (L.take k ++ [x])
    rw [minL_snoc _ _ (fun e => by have h9 := congrArg List.length e; rw [List.length_take] at h9; have h8 := (List.getElem?_eq_some_iff.1 hx).1; simp only [List.length_nil] at h9; omega), ← h2 (by omega), hm]
/-- What sets.build answers: the records' texts, one for each folded text, in the folded texts' order, at most 64. -/
def BuildP (n : ByteArray) (t : Int) (L : List RRec) (w : World) (e : Ending) (w' : World) : Prop :=
  ∃ (P : List Nat) (ds : List ByteArray) (Ad : Option Addr) (cd : Nat), SrtK (keyF (foldsL t L)) cmpS P ∧ StS (keyF (foldsL t L)) P (List.range L.length) ∧ ds = pickD L ((ddX (keyF (foldsL t L)) none P).take 64) ∧ e = .returned (setV n t (minL L) Ad ds cd) ∧ Sl w' 1 (.slice Ad ds.length cd) ds.length (ds.map Value.string) ∧ (∀ h, (Value.slice Ad ds.length cd).ownBlock = some h → w.heap.size ≤ h) ∧ Below w.heap.size w w'
set_option maxRecDepth 100000 in
set_option maxHeartbeats 8000000 in
theorem build_any {m : Nat} (hm : StabOkI m) (n : ByteArray) (t : Int) (A : Option Addr) (c : Nat) (L : List RRec) (w : World) (hT : RTab w A L) (h1 : 1 ≤ L.length) (hl : L.length ≤ m) (hl2 : L.length ≤ 1000) (hd : ∀ r ∈ L, r.d.size ≤ 1000000 ∧ 0 ≤ r.l ∧ r.l ≤ 4294967295) :
    Calls Tryz.prog 37 #[.string n, .int .u16 t, .slice A L.length c] w (BuildP n t L w) := by
  obtain ⟨i0, hi0, hz0, hz1, hz2⟩ := info3 info_intB
  obtain ⟨j0, hj0, hy0, hy1, hy2⟩ := info3 info_strC
  obtain ⟨mkS, hmkS, hmkS2⟩ : ∃ f : World → World, (∀ W, (Instr.makeSlice 34 (.int .i64 0) (.int .i64 (L.length : Int))).run Tryz.prog W = .ok (.slice (some ⟨W.heap.size, 0, none⟩) 0 L.length) (f W)) ∧ ∀ W, (f W).ownsRow W.heap.size 9 1 (.slice (some ⟨W.heap.size, 0, none⟩) 0 L.length) 0 [] ∧ W.grownBy (f W) none := by
    have H := fun W : World => run_make_own (P := Tryz.prog) (w := W) W.heap.size 34 9 j0 (.string ⟨#[]⟩) 1 Tryz.underlying34 hj0 hy0 hy1 .i64 .i64 L.length (by rw [hy2]; omega) (by unfold maxLen; omega) (Nat.le_refl _)
    exact ⟨fun W => Classical.choose (H W), fun W => (Classical.choose_spec (H W)).1, fun W => (Classical.choose_spec (H W)).2⟩
  obtain ⟨mkI, hmkI, hmkI2⟩ : ∃ f : World → World, (∀ W, (Instr.makeSlice 114 (.int .i64 0) (.int .i64 (L.length : Int))).run Tryz.prog W = .ok (.slice (some ⟨W.heap.size, 0, none⟩) 0 L.length) (f W)) ∧ ∀ W, (f W).ownsRow W.heap.size 3 1 (.slice (some ⟨W.heap.size, 0, none⟩) 0 L.length) 0 [] ∧ W.grownBy (f W) none := by
    have H := fun W : World => run_make_own (P := Tryz.prog) (w := W) W.heap.size 114 3 i0 (.int .i64 0) 1 Tryz.underlying114 hi0 hz0 hz1 .i64 .i64 L.length (by rw [hz2]; omega) (by unfold maxLen; omega) (Nat.le_refl _)
    exact ⟨fun W => Classical.choose (H W), fun W => (Classical.choose_spec (H W)).1, fun W => (Classical.choose_spec (H W)).2⟩
  obtain ⟨r, hr⟩ : ∃ r, L[0]? = some r := ⟨_, List.getElem?_eq_getElem (by omega)⟩
  obtain ⟨b, off, rfl, hbl, c0, c1, c2, c3, c4⟩ := hT.cells hr
  rw [Nat.zero_mul, Nat.add_zero] at c0 c1 c2 c3 c4
  have hlI : (L.length : Int) ≤ 1000 := by omega
  have h0I : (0 : Int) < (L.length : Int) := by omega
  have h0N : 0 < L.length := by omega
  have HS := Lib.hid (And.intro hT (And.intro h1 (And.intro hl (And.intro hl2 (And.intro hd hr)))))
  have HMK := Lib.hid (And.intro hmkS2 hmkI2)
  clear hT h1 hl hl2 hd hr hmkS2 hmkI2
  go_enter Tryz.func37, Tryz.ntmps37
  go_wp2_with (fail)
  obtain ⟨W1, hW1⟩ : ∃ W1, (w.alloc (.cells #[.string ⟨#[]⟩, .int .u16 0, .int .u32 0, .slice none 0 0] 36)).alloc (.cells #[.string n, .int .u16 t, .int .u32 r.l, .slice none 0 0] 36) = W1 := ⟨_, rfl⟩
  have z1 : W1.heap.size = w.heap.size + 2 := by rw [← hW1]; simp
  rw [hW1]
  obtain ⟨W2, hW2⟩ : ∃ W2, mkS W1 = W2 := ⟨_, rfl⟩
  rw [hW2]
  obtain ⟨W3, hW3⟩ : ∃ W3, W2.alloc (.cells #[.slice (some ⟨w.heap.size + 1 + 1, 0, none⟩) 0 L.length] 34) = W3 := ⟨_, rfl⟩
  rw [hW3]
  obtain ⟨W4, hW4⟩ : ∃ W4, mkI W3 = W4 := ⟨_, rfl⟩
  rw [hW4]
  have H4 : RowKit.Hid (BI w W4 n t r.l w.heap.size (w.heap.size + 1) W2.heap.size (some ⟨w.heap.size + 1 + 1, 0, none⟩) L.length (some ⟨W2.heap.size + 1, 0, none⟩) L.length [] []) := Lib.hid (by
    have g2 := HMK.out.1 W1
    have g4 := HMK.out.2 W3
    rw [hW2] at g2
    rw [hW4] at g4
    have z3 : W3.heap.size = W2.heap.size + 1 := by rw [← hW3]; simp
    have b01 : Below w.heap.size w W1 := by rw [← hW1]; exact ((Below.refl _ _).alloc (Nat.le_refl _) _).alloc (by simp) _
    have b12 : Below W1.heap.size W1 W2 := (Below.refl _ _).grown g2.2 (Nat.le_refl _) (fun g hg => by cases hg)
    have b23 : Below W2.heap.size W2 W3 := by rw [← hW3]; exact (Below.refl _ _).alloc (Nat.le_refl _) _
    have b34 : Below W3.heap.size W3 W4 := (Below.refl _ _).grown g4.2 (Nat.le_refl _) (fun g hg => by cases hg)
    have b24 : Below W2.heap.size W2 W4 := b23.trans (b34.mono b23.size)
    have b14 : Below W1.heap.size W1 W4 := b12.trans (b24.mono b12.size)
    have k0 : Blk W1 w.heap.size 36 #[.string ⟨#[]⟩, .int .u16 0, .int .u32 0, .slice none 0 0] := by rw [← hW1]; exact (Blk.new _ _ _).alloc _
    have k1 : Blk W1 (w.heap.size + 1) 36 #[.string n, .int .u16 t, .int .u32 r.l, .slice none 0 0] := by rw [← hW1]; exact heap_alloc2_new w _ _
    have k2 : Blk W3 W2.heap.size 34 #[.slice (some ⟨w.heap.size + 1 + 1, 0, none⟩) 0 L.length] := by rw [← hW3]; exact Blk.new _ _ _
    have e1 : w.heap.size + 1 + 1 = W1.heap.size := by omega
    have s2 := Sl.of_own g2.1
    have s4 := Sl.of_own g4.1
    rw [← e1] at s2
    rw [z3] at s4
    have hz2 := b12.size
    have hlt2 : w.heap.size + 1 + 1 < W2.heap.size := s2.lt _ rfl
    refine ⟨k0.below b14 k0.lt, k1.below b14 k1.lt, k2.below b34 k2.lt, s2.below b24 s2.lt, s4, b01.trans (b14.mono b01.size), fun g hg => ?_, fun g hg => ?_, fun g h hg hh => ?_, ⟨Nat.le_refl _, by omega, by omega, by omega, by omega, by omega⟩⟩
    · have : w.heap.size + 1 + 1 = g := Option.some.inj hg
      omega
    · have : W2.heap.size + 1 = g := Option.some.inj hg
      omega
    · have h1 : w.heap.size + 1 + 1 = g := Option.some.inj hg
      have h2 : W2.heap.size + 1 = h := Option.some.inj hh
      omega)
  have HBS := Lib.hid (show w.heap.size + 1 < W2.heap.size from by have := H4.out.lo; have := H4.out.s.lt; have g2 := HMK.out.1 W1; rw [hW2] at g2; have := g2.2.size; omega)
  clear hW1 hW2 hW3 hW4 z1 c0 c1 c2 c3 c4 hbl hmkS hmkI HMK
  go_loopg [9, 10, 11, 30] L.length (fun gg v9 v10 v11 v30 wr => ∃ (k : Nat) (Af : Option Addr) (cf : Nat) (Ao : Option Addr) (co : Nat) (ml : Int), v30 = .int .i64 (k : Int) ∧ v9 = .slice Ao k co ∧ Aside (gg + k = L.length) ∧ Aside ((k = 0 → ml = r.l) ∧ (0 < k → ml = minL (L.take k)) ∧ 0 ≤ ml ∧ ml ≤ 4294967295) ∧ Aside (BI w wr n t ml w.heap.size (w.heap.size + 1) W2.heap.size Af cf Ao co ((foldsL t L).take k) (List.range k)))
  case atStart => exact ⟨0, _, _, _, _, r.l, rfl, rfl, (by show _ = _; omega), ⟨fun _ => rfl, fun h => absurd h (by omega), (HS.out.2.2.2.2.1 r (List.mem_of_getElem? HS.out.2.2.2.2.2)).2⟩, H4.out⟩
  case round =>
    obtain ⟨k, Af, cf, Ao, co, ml, rfl, rfl, hg, hml, hB⟩ := hrel
    have hkI : (k : Int) ≤ 1000 := by have := hg.out; omega
    by_cases hlt : k < L.length
    · have hltI : (k : Int) < (L.length : Int) := by omega
      obtain ⟨⟨rn, rt, rc, rl, rd⟩, hx⟩ : ∃ x, L[k]? = some x := ⟨_, List.getElem?_eq_getElem hlt⟩
      obtain ⟨b', off', hA', hbl, d0, d1, d2, d3, d4⟩ := (HS.out.1.below hB.out.bl).cells hx
      injection hA' with hA'
      injection hA' with hA1 hA2 _
      subst hA1 hA2
      dsimp only at d0 d1 d2 d3 d4
      have hrd := HS.out.2.2.2.2.1 _ (List.mem_of_getElem? hx)
      dsimp only at hrd
      have s2 := hB.out.s.cell 2
      have sf2 := hB.out.s.frozen 2
      have hsl := hB.out.s.lt
      have hrl1 := hrd.2.1
      have hrl2 := hrd.2.2
      have hml1 := hml.out.2.2.1
      have hml2 := hml.out.2.2.2
      have HX := Lib.hid (And.intro hx (And.intro hlt hrd))
      clear hx hlt hrd
      go_wp2_with (fail)
      obtain ⟨mm, hmm⟩ : ∃ mm, min ml rl = mm := ⟨_, rfl⟩
      rw [hmm]
      obtain ⟨V, hV⟩ : ∃ V, (wr.setCell ⟨w.heap.size + 1, 2, none⟩ (.int .u32 mm)).alloc (.cells #[.string rn, .int .u16 rt, .int .u16 rc, .int .u32 rl, .string rd] 33) = V := ⟨_, rfl⟩
      rw [hV]
      obtain ⟨rb, hrb⟩ : ∃ rb, wr.heap.size = rb := ⟨_, rfl⟩
      rw [hrb]
      have hBV : BI w V n t mm w.heap.size (w.heap.size + 1) W2.heap.size Af cf Ao co ((foldsL t L).take k) (List.range k) := by
        rw [← hV]
        exact (hB.out.min mm).low ((Below.refl _ _).alloc (Nat.le_refl _) _)
      have hRV : Blk V rb 33 #[.string rn, .int .u16 rt, .int .u16 rc, .int .u32 rl, .string rd] := by
        rw [← hV, ← hrb]
        have := Blk.new (wr.setCell ⟨w.heap.size + 1, 2, none⟩ (.int .u32 mm)) 33 #[.string rn, .int .u16 rt, .int .u16 rc, .int .u32 rl, .string rd]
        simpa [World.setCell] using this
      have hfl : ((foldsL t L).take k).length = k := by rw [List.length_take]; unfold foldsL; rw [List.length_map]; have := HX.out.2.1; omega
      obtain ⟨FX, hFX⟩ : ∃ FX : ByteArray, (⟨(foldD t rd.data.toList).toArray⟩ : ByteArray) = FX := ⟨_, rfl⟩
      have HFD := Lib.hid (fun W => foldJ_any t rd HX.out.2.2.1 W)
      rw [hFX] at HFD
      have hnext : (foldsL t L).take (k + 1) = (foldsL t L).take k ++ [FX] := by
        rw [List.take_add_one]
        unfold foldsL
        rw [List.getElem?_map, HX.out.1, ← hFX]
        rfl
      have HN := Lib.hid (And.intro hnext (And.intro hfl hmm))
      obtain ⟨fk, hfk⟩ : ∃ fk, (foldsL t L).take k = fk := ⟨_, rfl⟩
      rw [hfk] at hBV hfl
      have HFK := Lib.hid hfk
      have f0 : ∀ p : BelowOf V, p.X.cell? ⟨W2.heap.size, 0, none⟩ = some (.slice Af k cf) := fun p => by have := (hBV.f.low p).cell 0; rw [hfl] at this; exact this
      have r4 : ∀ p : BelowOf V, p.X.cell? ⟨rb, 4, none⟩ = some (.string rd) := fun p => (hRV.low p).cell 4
      have HBV := Lib.hid (And.intro hBV hRV)
      have HFL := Lib.hid hfl
      have R0 : Below V.heap.size V V := Below.refl _ _
      have hbfl := hBV.f.lt
      have hrbl := hRV.lt
      have HAP : RowKit.Hid (∀ W, Below V.heap.size V W → Sl (W.alloc (.cells #[.string FX] 9)) 1 (.slice Af k cf) k (fk.map Value.string) ∧ BI w (W.alloc (.cells #[.string FX] 9)) n t mm w.heap.size (w.heap.size + 1) W2.heap.size Af cf Ao co fk (List.range k)) := Lib.hid (fun W hW => by
        have h0 := (hBV.low hW).low ((Below.refl _ _).alloc (Nat.le_refl _) (.cells #[.string FX] 9))
        have h1 := ((hBV.low hW).fsl).alloc (.cells #[.string FX] 9)
        rw [hfl] at h1
        exact ⟨h1, h0⟩)
      clear hBV hRV hfl hnext hfk hFX hmm hV hrb s2 sf2 hsl d0 d1 d2 d3 d4 hrl1 hrl2 hml1 hml2
      go_wp2_with (fail)
      refine region_quietE (by kernel_rfl) [⟨0, 41, .slice Af k cf⟩, ⟨1, 42, .int .u16 t⟩, ⟨2, 43, .pointer (some ⟨rb, 4, none⟩)⟩, ⟨3, 44, .string rd⟩, ⟨4, 45, .string FX⟩] [(3, #[true, true, true, true, true, false, false, false]), (4, #[false, true, true, true, true, false, false, false])] #[true, true, true, true, true, false, false, false] [(8, .pointer (some ⟨W2.heap.size, 0, none⟩)), (1, .int .u16 t), (11, .pointer (some ⟨rb, 0, none⟩)), (42, .int .u16 t), (43, .pointer (some ⟨rb, 4, none⟩)), (44, .string rd)] ?hL ?hfin ?hchk ?h0 ?hE ?hp ?H
      case hL => simp [apartL]
      case hfin => simp
      case hchk => kernel_rfl
      case h0 => rfl
      case hE => kernel_rfl
      case hp =>
        intro ρ hρ hρc hρf
        have p8 := hρ _ (List.mem_cons_self ..)
        have p1 := hρ _ (.tail _ (List.mem_cons_self ..))
        have p11 := hρ _ (.tail _ (.tail _ (List.mem_cons_self ..)))
        have p42 := hρ _ (.tail _ (.tail _ (.tail _ (List.mem_cons_self ..))))
        have p43 := hρ _ (.tail _ (.tail _ (.tail _ (.tail _ (List.mem_cons_self ..)))))
        have p44 := hρ _ (.tail _ (.tail _ (.tail _ (.tail _ (.tail _ (List.mem_cons_self ..))))))
        dsimp only at p8 p1 p11 p42 p43 p44
        clear hρ HS H4 HBS hg hml hB HX HN HFK HBV HFL HAP
        intro r hr
        simp only [List.mem_cons, List.not_mem_nil, or_false] at hr
        rcases hr with rfl | rfl | rfl | rfl | rfl
        · refine ⟨_, rfl, rfl, by simp, fun p => ?_⟩
          simp only [execOp, p8]
          go_simp
        · refine ⟨_, rfl, rfl, by simp, fun p => ?_⟩
          simp only [execOp, p1]
          go_simp
        · refine ⟨_, rfl, rfl, by simp, fun p => ?_⟩
          simp only [execOp, p11]
          go_simp
        · refine ⟨_, rfl, rfl, by simp, fun p => ?_⟩
          simp only [execOp, p43]
          go_simp
        · refine ⟨_, rfl, rfl, by simp, fun p => ?_⟩
          simp only [execOp, resolve, hρf]
          go_simp
          exact calls_low (HFD.out _)
      case H =>
        rintro ⟨w5, hV5⟩ s hs
        simp only [List.mem_cons, List.not_mem_nil, or_false] at hs
        obtain ⟨hs5, hB5⟩ := HAP.out w5 hV5
        have q5 : w5.cell? ⟨W2.heap.size, 0, none⟩ = some (.slice Af k cf) := f0 ⟨w5, hV5⟩
        have hbl5 : W2.heap.size < w5.heap.size := Nat.lt_of_lt_of_le hbfl hV5.size
        have HS5 := Lib.hid (And.intro hs5 hB5)
        have H5 := Lib.hid hV5
        dsimp only
        clear hs5 hB5 hV5 f0 r4
        rcases hs with rfl | rfl
        case' inl =>
          simp (decide := true) only [fillS, List.foldl, Act.put, ite_true, ite_false]
          refine wpAny_ready (rs := [5]) (by kernel_rfl) (by simp) ?_
          refine AllReady.cons rfl (fun K hK => ?_) AllReady.nil
          go_simp
          refine hK _ _ ?_
          clear hK K
        case' inr =>
          simp (decide := true) only [fillS, List.foldl, Act.put, ite_true, ite_false]
          refine wpAny_ready (rs := [0, 5]) (by kernel_rfl) (by simp) ?_
          refine AllReady.cons rfl ?ra (AllReady.cons rfl ?rb AllReady.nil)
        case' ra =>
          intro K hK
          go_simp
          refine hK _ _ ?_
          clear hK K
          refine wpAny_ready (rs := [5]) (by kernel_rfl) (by simp) ?_
          refine AllReady.cons rfl (fun K hK => ?_) AllReady.nil
          go_simp
          refine hK _ _ ?_
          clear hK K
        case' rb =>
          intro K hK
          go_simp
          refine hK _ _ ?_
          clear hK K
          refine wpAny_ready (rs := [0]) (by kernel_rfl) (by simp) ?_
          refine AllReady.cons rfl (fun K hK => ?_) AllReady.nil
          go_simp
          refine hK _ _ ?_
          clear hK K
        all_goals
          refine wpAny_ready (rs := [6]) (by kernel_rfl) (by simp) ?_
          refine AllReady.cons rfl (fun K hK => ?_) AllReady.nil
          refine step_append_sl _ rfl (.tmp 41) (.tmp 46) 34 34 rfl 9 j0 (.string ⟨#[]⟩) 1 16 Tryz.underlying34 hj0 hy0 hy1 hy2 rfl (.slice Af k cf) k (fk.map Value.string) rfl HS5.out.1 (.slice (some ⟨w5.heap.size, 0, none⟩) 1 1) rfl 1 [.string FX] (src_new (P := Tryz.prog) Tryz.underlying34 w5 9 (.string FX) rfl) (by unfold maxLen; omega) (by omega) ?_
          intro v7 w7 hs7 hg7 hv7
          obtain ⟨A7, c7, rfl, _⟩ := hs7.shape
          have hBf : Blk w7 W2.heap.size 34 #[.slice Af fk.length cf] := HS5.out.2.f.grown hg7 (fun e => by rw [← HFL.out] at e; exact (HS5.out.2.of _ e.symm).2.2.2 rfl)
          have q7 := hBf.cell 0
          have qf7 := hBf.frozen 0
          have ql7 := hBf.lt
          rw [HFL.out] at q7
          have H7 := Lib.hid (And.intro hs7 (And.intro hg7 hv7))
          clear hs7 hg7 hv7 hBf
          go_simp
          refine hK _ _ ?_
          clear hK K
          refine wpAny_ready (rs := [7]) (by kernel_rfl) (by simp) ?_
          refine AllReady.cons rfl (fun K hK => ?_) AllReady.nil
          go_simp
          refine hK _ _ ?_
          clear hK K
          refine wpAny_done (by kernel_rfl) ?_ _
          have H8 := HS5.out.2.pushF (A5 := A7) (c5 := c7) (x := FX) (by rw [HFL.out]; exact H7.out.1) (by rw [HFL.out]; exact H7.out.2.1) (by rw [HFL.out]; exact H7.out.2.2)
          rw [HFL.out] at H8
          obtain ⟨w8, hw8⟩ : ∃ w8, w7.setCell ⟨W2.heap.size, 0, none⟩ (.slice A7 (k + 1) c7) = w8 := ⟨_, rfl⟩
          rw [hw8] at H8
          rw [hw8]
          clear hw8 q7 qf7 ql7 q5 hbl5 hbfl hrbl R0
          have HI := Lib.hid (show Sl (w8.alloc (.cells #[.int .i64 (k : Int)] 3)) 1 (.slice Ao k co) k (ixC (List.range k)) ∧ BI w (w8.alloc (.cells #[.int .i64 (k : Int)] 3)) n t mm w.heap.size (w.heap.size + 1) W2.heap.size A7 c7 Ao co (fk ++ [FX]) (List.range k) from ⟨by have h := H8.osl.alloc (.cells #[.int .i64 (k : Int)] 3); rw [List.length_range] at h; exact h, H8.low ((Below.refl _ _).alloc (Nat.le_refl _) _)⟩)
          clear H8
          go_wp2_with (at_builtin; go_must (refine wpList_append_sl _ rfl (.tmp 48) (.tmp 50) 114 114 rfl 3 i0 (.int .i64 0) 1 8 Tryz.underlying114 hi0 hz0 hz1 hz2 rfl (.slice Ao k co) k (ixC (List.range k)) rfl HI.out.1 (.slice (some ⟨w8.heap.size, 0, none⟩) 1 1) rfl 1 [.int .i64 (k : Int)] (src_new (P := Tryz.prog) Tryz.underlying114 w8 3 (.int .i64 (k : Int)) rfl) (by unfold maxLen; omega) (by omega) ?_); intro v9 w9 hs9 hg9 hv9; obtain ⟨A9, c9, rfl, _⟩ := hs9.shape; have H9 := Lib.hid (And.intro hs9 (And.intro hg9 hv9)); clear hs9 hg9 hv9)
          go_roundg (L.length - (k + 1))
          case measure => have := hg.out; have := HX.out.2.1; omega
          case rel =>
            refine ⟨k + 1, A7, c7, A9, c9, mm, by go_num, rfl, (show L.length - (k + 1) + (k + 1) = L.length by have := HX.out.2.1; omega), min_next HS.out.2.2.2.2.2 HX.out.1 hml.out ⟨HX.out.2.2.2.1, HX.out.2.2.2.2⟩ HN.out.2.2, ?_⟩
            have h9 := HI.out.2.pushO (A5 := A9) (c5 := c9) (x := k) (by rw [List.length_range]; exact H9.out.1) (by rw [List.length_range]; exact H9.out.2.1) (by rw [List.length_range]; exact H9.out.2.2)
            show BI _ _ _ _ _ _ _ _ _ _ _ _ ((foldsL t L).take (k + 1)) (List.range (k + 1))
            rw [HN.out.1, HFK.out, List.range_succ]
            exact h9
    · have hltI : ¬ (k : Int) < (L.length : Int) := by omega
      have hk : k = L.length := by have := hg.out; omega
      subst hk
      have hfs : (foldsL t L).length = L.length := by unfold foldsL; rw [List.length_map]
      obtain ⟨fs, hfse⟩ : ∃ fs, foldsL t L = fs := ⟨_, rfl⟩
      rw [hfse] at hB hfs
      rw [List.take_of_length_le (by omega)] at hB
      have hmin := hml.out.2.1 h0N
      rw [List.take_length] at hmin
      obtain ⟨g, co', hA, hgl, _⟩ := hB.out.osl.form (by rw [List.length_range]; exact h0N)
      injection hA with hA1 hA2 hA3
      subst hA1 hA3
      have HL := Lib.hid (And.intro hmin (And.intro hfs hfse))
      clear hmin hfs hfse hlt hg hml
      go_wp2_with (fail)
      obtain ⟨Wb, hWb⟩ : ∃ Wb, wr.alloc (.cells #[.func (.func 56) #[] #[.pointer (some ⟨W2.heap.size, 0, none⟩)]] 115) = Wb := ⟨_, rfl⟩
      rw [hWb]
      obtain ⟨Bq, hBq⟩ : ∃ Bq, wr.heap.size = Bq := ⟨_, rfl⟩
      rw [hBq]
      have hBb : BI w Wb n t ml w.heap.size (w.heap.size + 1) W2.heap.size Af cf (some ⟨g, 0, none⟩) co fs (List.range L.length) := by
        rw [← hWb]
        exact hB.out.low ((Below.refl _ _).alloc (Nat.le_refl _) _)
      have hqb : Blk Wb Bq 115 #[.func (.func 56) #[] #[.pointer (some ⟨W2.heap.size, 0, none⟩)]] := by
        rw [← hWb, ← hBq]
        exact Blk.new _ _ _
      have hsb : Sl Wb 1 (.slice (some ⟨g, 0, none⟩) (List.range L.length).length co) (List.range L.length).length (ixC (List.range L.length)) := hBb.osl
      have hib : IxOk Wb g W2.heap.size Af cf fs (List.range L.length) := ⟨⟨hBb.f, stab_of_sl hBb.fsl, fun e => (hBb.oo g rfl).2.2.2 e.symm, fun a ha e => hBb.ne a.block g (by rcases hBb.fsl.2 with ⟨h0, _⟩ | ⟨g1, c1, h0, _⟩ <;> (injection h0 with h0; rw [ha] at h0; first | (cases h0; done) | (injection h0 with h0; rw [ha, h0]; rfl))) rfl e⟩, fun p hp => by rw [HL.out.2.1]; exact List.mem_range.1 hp, by rw [HL.out.2.1]; omega⟩
      have HSO := Lib.hid (sortStabI_any hm fs Af cf W2.heap.size g co (List.range L.length) Wb hsb hib (by rw [List.length_range]; exact HS.out.2.2.1) (by rw [List.length_range]; omega))
      rw [List.length_range] at HSO
      have b0 : Wb.cell? ⟨Bq, 0, none⟩ = some (.func (.func 56) #[] #[.pointer (some ⟨W2.heap.size, 0, none⟩)]) := hqb.cell 0
      have HB := Lib.hid (And.intro hBb (And.intro hqb (And.intro hib (show Bq ≠ g from fun e => by omega))))
      clear hBb hqb hsb hib hWb hBq hgl
      go_upto_region 12 with (fail)
      go_wp2_with (fail)
      with_reducible refine HSO.out.mono ?_
      rintro e w5 ⟨rfl, P', hsrt, hst, hs5, hk5⟩
      simp only [List.length_range] at hs5
      have hlP : P'.length = L.length := by have := hs5.1; rw [ixC_len] at this; omega
      have hi5 := (HB.out.2.2.1.keep hk5).mem (Q := P') (fun q hq => hst.mem hq)
      have hq5 := HB.out.2.1.keepK hk5 ⟨HB.out.2.1.lt, HB.out.2.2.2⟩
      have b5 := hq5.cell 0
      rw [← hlP] at hs5
      have HCO := Lib.hid (compactI_any fs Af cf W2.heap.size Bq g co P' w5 hs5 hi5 hq5 HB.out.2.2.2 (by omega) (by omega))
      rw [hlP] at HCO
      have HP := Lib.hid (And.intro hsrt (And.intro hst (And.intro hlP (And.intro hk5 hi5))))
      clear hsrt hst hs5 hk5 hlP hi5 hq5 b0 HSO
      go_wp2_with (fail)
      with_reducible refine HCO.out.mono ?_
      rintro e w6 ⟨rfl, hs6, hk6⟩
      obtain ⟨D, hD⟩ : ∃ D, ddX (keyF fs) none P' = D := ⟨_, rfl⟩
      rw [hD] at hs6
      rw [hD]
      obtain ⟨A6, c6, hsv, hc6, hm6⟩ := hs6.shape
      injection hsv with e1 _ e3
      subst e1 e3
      have HD := Lib.hid (And.intro hs6 (And.intro hk6 hD))
      have hDl : D.length ≤ 1000 := by
        rw [← hD]
        have := ddX_len (keyF fs) P' none
        have := HP.out.2.2.1
        omega
      have hDm : ∀ i ∈ D, i < L.length := fun i hi => by
        rw [← hD] at hi
        exact List.mem_range.1 (HP.out.2.1.mem (ddX_mem _ _ _ _ hi))
      have h6 : BJ w w6 n t ml w.heap.size (w.heap.size + 1) g co D none 0 [] := by
        have ho := HB.out.1.oo g rfl
        have k5 := HP.out.2.2.2.1
        have sz := k5.size
        have kk : KeepK (fun i => i < Wb.heap.size ∧ i ≠ g) Wb w6 := k5.trans (hk6.mono fun i hi => ⟨Nat.lt_of_lt_of_le hi.1 sz, hi.2⟩)
        have hbs := HB.out.1.bl.size
        refine ⟨HB.out.1.r0.keepK kk ⟨HB.out.1.r0.lt, fun e => ho.2.1 e.symm⟩, HB.out.1.s.keepK kk ⟨HB.out.1.s.lt, fun e => ho.2.2.1 e.symm⟩, hs6, Sl.nil _ _, HB.out.1.bl.trans (kk.below fun i hi => ⟨Nat.lt_of_lt_of_le hi hbs, fun e => by omega⟩), fun k hk => by simp [Value.ownBlock] at hk, ⟨Nat.le_refl _, by omega, by omega, ho.2.1, ho.2.2.1⟩⟩
      have HJ0 := Lib.hid h6
      have HDM := Lib.hid hDm
      clear hs6 hk6 hD HCO b5 hDm h6
      obtain ⟨T, hT⟩ : ∃ T, min D.length 64 = T := ⟨_, rfl⟩
      have hTI : min (D.length : Int) 64 = (T : Int) := by omega
      have hTD : T ≤ D.length := by omega
      have hT64 : T ≤ 64 := by omega
      go_wp2_with (fail)
      go_loopg [14, 66] T (fun gg v14 v66 wr => ∃ (j : Nat) (Ad : Option Addr) (cd : Nat), v66 = .int .i64 (j : Int) ∧ Aside (gg + j = T) ∧ Aside (BJ w wr n t ml w.heap.size (w.heap.size + 1) g co D Ad cd (pickD L (D.take j))))
      case atStart => exact ⟨0, none, 0, rfl, (by show _ = _; omega), HJ0.out⟩
      case round =>
        obtain ⟨j, Ad, cd, rfl, hg, hJ⟩ := hrel
        by_cases hlt : j < T
        · have hltI : (j : Int) < (T : Int) := by omega
          obtain ⟨i, hi⟩ : ∃ i, D[j]? = some i := ⟨_, List.getElem?_eq_getElem (by omega)⟩
          have hiL := HDM.out i (List.mem_of_getElem? hi)
          have hiI : (i : Int) < (L.length : Int) := by omega
          obtain ⟨⟨rn, rt, rc, rl, rd⟩, hx⟩ : ∃ x, L[i]? = some x := ⟨_, List.getElem?_eq_getElem hiL⟩
          have gi : wr.cell? ⟨g, j, none⟩ = some (.int .i64 (i : Int)) := hJ.out.osl.cell rfl (ixC_at hi)
          have HX := Lib.hid (And.intro hi (And.intro hx hlt))
          clear hi hx hlt hiL
          go_wp2_with (fail)
          obtain ⟨bl', off', hA', hbl, d0, d1, d2, d3, d4⟩ := (HS.out.1.below hJ.out.bl).cells HX.out.2.1
          injection hA' with hA'
          injection hA' with hA1 hA2 _
          subst hA1 hA2
          dsimp only at d4
          have hjl : (pickD L (D.take j)).length = j := by rw [pickD_len, List.length_take]; have := HX.out.2.2; omega
          obtain ⟨ds, hds⟩ : ∃ ds, pickD L (D.take j) = ds := ⟨_, rfl⟩
          rw [hds] at hjl
          have hJ' := hJ.out
          rw [hds] at hJ'
          have f3 : ∀ p : BelowOf wr, p.X.cell? ⟨w.heap.size + 1, 3, none⟩ = some (.slice Ad j cd) := fun p => by have := (hJ'.s.low p).cell 3; rw [hjl] at this; exact this
          have r4 : ∀ p : BelowOf wr, p.X.cell? ⟨b, off + i * 5 + 4, none⟩ = some (.string rd) := fun p => p.cell (a := ⟨b, off + i * 5 + 4, none⟩) hbl d4
          have hsl := hJ'.s.lt
          have HAP : RowKit.Hid (∀ W, Below wr.heap.size wr W → Sl (W.alloc (.cells #[.string rd] 9)) 1 (.slice Ad j cd) j (ds.map Value.string) ∧ BJ w (W.alloc (.cells #[.string rd] 9)) n t ml w.heap.size (w.heap.size + 1) g co D Ad cd ds) := Lib.hid (fun W hW => by
            have h0 := (hJ'.low hW).low ((Below.refl _ _).alloc (Nat.le_refl _) (.cells #[.string rd] 9))
            have h1 := ((hJ'.low hW).dsl).alloc (.cells #[.string rd] 9)
            rw [hjl] at h1
            exact ⟨h1, h0⟩)
          have hjI : (j : Int) ≤ 64 := by omega
          have HJL := Lib.hid (And.intro hjl hds)
          clear hJ' hjl hds d0 d1 d2 d3 d4 hbl gi
          refine region_quietE (by kernel_rfl) [⟨0, 70, .pointer (some ⟨w.heap.size + 1, 3, none⟩)⟩, ⟨1, 71, .slice Ad j cd⟩, ⟨2, 72, .slice (some ⟨b, off, none⟩) L.length c⟩, ⟨3, 73, .int .i64 (i : Int)⟩, ⟨4, 74, .pointer (some ⟨b, off + i * 5, none⟩)⟩, ⟨5, 75, .pointer (some ⟨b, off + i * 5 + 4, none⟩)⟩, ⟨6, 76, .string rd⟩] [(4, #[true, true, true, true, true, true, true, false, false, false, false]), (5, #[true, false, true, true, true, true, true, false, false, false, false]), (6, #[false, false, true, true, true, true, true, false, false, false, false])] #[true, true, true, true, true, true, true, false, false, false, false] [(7, .pointer (some ⟨w.heap.size + 1, 0, none⟩)), (70, .pointer (some ⟨w.heap.size + 1, 3, none⟩)), (2, .slice (some ⟨b, off, none⟩) L.length c), (14, .int .i64 (i : Int)), (72, .slice (some ⟨b, off, none⟩) L.length c), (73, .int .i64 (i : Int)), (74, .pointer (some ⟨b, off + i * 5, none⟩)), (75, .pointer (some ⟨b, off + i * 5 + 4, none⟩))] ?hL ?hfin ?hchk ?h0 ?hE ?hp ?H
          case hL => simp [apartL]
          case hfin => simp
          case hchk => kernel_rfl
          case h0 => rfl
          case hE => kernel_rfl
          case hp =>
            intro ρ hρ hρc hρf
            have p7 := hρ _ (List.mem_cons_self ..)
            have p70 := hρ _ (.tail _ (List.mem_cons_self ..))
            have p2 := hρ _ (.tail _ (.tail _ (List.mem_cons_self ..)))
            have p14 := hρ _ (.tail _ (.tail _ (.tail _ (List.mem_cons_self ..))))
            have p72 := hρ _ (.tail _ (.tail _ (.tail _ (.tail _ (List.mem_cons_self ..)))))
            have p73 := hρ _ (.tail _ (.tail _ (.tail _ (.tail _ (.tail _ (List.mem_cons_self ..))))))
            have p74 := hρ _ (.tail _ (.tail _ (.tail _ (.tail _ (.tail _ (.tail _ (List.mem_cons_self ..)))))))
            have p75 := hρ _ (.tail _ (.tail _ (.tail _ (.tail _ (.tail _ (.tail _ (.tail _ (List.mem_cons_self ..))))))))
            dsimp only at p7 p70 p2 p14 p72 p73 p74 p75
            clear hρ HS HBS HX HAP HJ0 HDM HP HD HB HJL hg hJ HL
            intro r hr
            simp only [List.mem_cons, List.not_mem_nil, or_false] at hr
            rcases hr with rfl | rfl | rfl | rfl | rfl | rfl | rfl
            · refine ⟨_, rfl, rfl, by simp, fun p => ?_⟩
              simp only [execOp, p7]
              go_simp
            · refine ⟨_, rfl, rfl, by simp, fun p => ?_⟩
              simp only [execOp, p70]
              go_simp
            · refine ⟨_, rfl, rfl, by simp, fun p => ?_⟩
              simp only [execOp, p2]
              go_simp
            · refine ⟨_, rfl, rfl, by simp, fun p => ?_⟩
              simp only [execOp, p14]
              go_simp
            · refine ⟨_, rfl, rfl, by simp, fun p => ?_⟩
              simp only [execOp, p72, p73]
              go_simp
            · refine ⟨_, rfl, rfl, by simp, fun p => ?_⟩
              simp only [execOp, p74]
              go_simp
            · refine ⟨_, rfl, rfl, by simp, fun p => ?_⟩
              simp only [execOp, p75]
              go_simp
          case H =>
            rintro ⟨w5, hV5⟩ s hs
            simp only [List.mem_cons, List.not_mem_nil, or_false] at hs
            obtain ⟨hs5, hB5⟩ := HAP.out w5 hV5
            have q5 : w5.cell? ⟨w.heap.size + 1, 3, none⟩ = some (.slice Ad j cd) := f3 ⟨w5, hV5⟩
            have hbl5 : w.heap.size + 1 < w5.heap.size := Nat.lt_of_lt_of_le hsl hV5.size
            have HS5 := Lib.hid (And.intro hs5 hB5)
            dsimp only
            clear hs5 hB5 hV5 f3 r4 hsl
            rcases hs with rfl | rfl | rfl
            case' inl =>
              simp (decide := true) only [fillS, List.foldl, Act.put, ite_true, ite_false]
              refine wpAny_ready (rs := [7]) (by kernel_rfl) (by simp) ?_
              refine AllReady.cons rfl (fun K hK => ?_) AllReady.nil
              go_simp
              refine hK _ _ ?_
              clear hK K
            case' inr.inl =>
              simp (decide := true) only [fillS, List.foldl, Act.put, ite_true, ite_false]
              refine wpAny_ready (rs := [1, 7]) (by kernel_rfl) (by simp) ?_
              refine AllReady.cons rfl ?b1 (AllReady.cons rfl ?b7 AllReady.nil)
            case' inr.inr =>
              simp (decide := true) only [fillS, List.foldl, Act.put, ite_true, ite_false]
              refine wpAny_ready (rs := [0, 7]) (by kernel_rfl) (by simp) ?_
              refine AllReady.cons rfl ?c0 (AllReady.cons rfl ?c7 AllReady.nil)
            case' b1 =>
              intro K hK
              go_simp
              refine hK _ _ ?_
              clear hK K
              refine wpAny_ready (rs := [7]) (by kernel_rfl) (by simp) ?_
              refine AllReady.cons rfl (fun K hK => ?_) AllReady.nil
              go_simp
              refine hK _ _ ?_
              clear hK K
            case' b7 =>
              intro K hK
              go_simp
              refine hK _ _ ?_
              clear hK K
              refine wpAny_ready (rs := [1]) (by kernel_rfl) (by simp) ?_
              refine AllReady.cons rfl (fun K hK => ?_) AllReady.nil
              go_simp
              refine hK _ _ ?_
              clear hK K
            case' c0 =>
              intro K hK
              go_simp
              refine hK _ _ ?_
              clear hK K
              refine wpAny_ready (rs := [1, 7]) (by kernel_rfl) (by simp) ?_
              refine AllReady.cons rfl ?c01 (AllReady.cons rfl ?c07 AllReady.nil)
            case' c01 =>
              intro K hK
              go_simp
              refine hK _ _ ?_
              clear hK K
              refine wpAny_ready (rs := [7]) (by kernel_rfl) (by simp) ?_
              refine AllReady.cons rfl (fun K hK => ?_) AllReady.nil
              go_simp
              refine hK _ _ ?_
              clear hK K
            case' c07 =>
              intro K hK
              go_simp
              refine hK _ _ ?_
              clear hK K
              refine wpAny_ready (rs := [1]) (by kernel_rfl) (by simp) ?_
              refine AllReady.cons rfl (fun K hK => ?_) AllReady.nil
              go_simp
              refine hK _ _ ?_
              clear hK K
            case' c7 =>
              intro K hK
              go_simp
              refine hK _ _ ?_
              clear hK K
              refine wpAny_ready (rs := [0]) (by kernel_rfl) (by simp) ?_
              refine AllReady.cons rfl (fun K hK => ?_) AllReady.nil
              go_simp
              refine hK _ _ ?_
              clear hK K
              refine wpAny_ready (rs := [1]) (by kernel_rfl) (by simp) ?_
              refine AllReady.cons rfl (fun K hK => ?_) AllReady.nil
              go_simp
              refine hK _ _ ?_
              clear hK K
            all_goals
              refine wpAny_ready (rs := [8]) (by kernel_rfl) (by simp) ?_
              refine AllReady.cons rfl (fun K hK => ?_) AllReady.nil
              refine step_append_sl _ rfl (.tmp 71) (.tmp 77) 34 34 rfl 9 j0 (.string ⟨#[]⟩) 1 16 Tryz.underlying34 hj0 hy0 hy1 hy2 rfl (.slice Ad j cd) j (ds.map Value.string) rfl HS5.out.1 (.slice (some ⟨w5.heap.size, 0, none⟩) 1 1) rfl 1 [.string rd] (src_new (P := Tryz.prog) Tryz.underlying34 w5 9 (.string rd) rfl) (by unfold maxLen; omega) (by omega) ?_
              intro v7 w7 hs7 hg7 hv7
              obtain ⟨A7, c7, rfl, _⟩ := hs7.shape
              have hBs : Blk w7 (w.heap.size + 1) 36 #[.string n, .int .u16 t, .int .u32 ml, .slice Ad ds.length cd] := HS5.out.2.s.grown hg7 (fun e => by rw [← HJL.out.1] at e; exact (HS5.out.2.od _ e.symm).2.2.1 rfl)
              have q7 := hBs.cell 3
              have qf7 := hBs.frozen 3
              have ql7 := hBs.lt
              rw [HJL.out.1] at q7
              have H7 := Lib.hid (And.intro hs7 (And.intro hg7 hv7))
              clear hs7 hg7 hv7 hBs
              go_simp
              refine hK _ _ ?_
              clear hK K
              refine wpAny_ready (rs := [9]) (by kernel_rfl) (by simp) ?_
              refine AllReady.cons rfl (fun K hK => ?_) AllReady.nil
              go_simp
              refine hK _ _ ?_
              clear hK K
              refine wpAny_ready (rs := [10]) (by kernel_rfl) (by simp) ?_
              refine AllReady.cons rfl (fun K hK => ?_) AllReady.nil
              go_simp
              refine hK _ _ ?_
              clear hK K
              refine wpAny_done (by kernel_rfl) ?_ _
              have H8 := HS5.out.2.push (A5 := A7) (c5 := c7) (x := rd) (by rw [HJL.out.1]; exact H7.out.1) (by rw [HJL.out.1]; exact H7.out.2.1) (by rw [HJL.out.1]; exact H7.out.2.2)
              rw [HJL.out.1] at H8
              obtain ⟨w8, hw8⟩ : ∃ w8, w7.setCell ⟨w.heap.size + 1, 3, none⟩ (.slice A7 (j + 1) c7) = w8 := ⟨_, rfl⟩
              rw [hw8] at H8
              rw [hw8]
              have H9 := Lib.hid H8
              clear hw8 q7 qf7 ql7 q5 hbl5 H8
              go_wp2_with (fail)
              go_roundg (T - (j + 1))
              case measure => have := hg.out; have := HX.out.2.2; omega
              case rel =>
                refine ⟨j + 1, A7, c7, by go_num, (show T - (j + 1) + (j + 1) = T by have := HX.out.2.2; omega), ?_⟩
                show BJ _ _ _ _ _ _ _ _ _ _ _ _ (pickD L (D.take (j + 1)))
                rw [pickD_take HX.out.1 HX.out.2.1, HJL.out.2]
                exact H9.out
        · have hltI : ¬ (j : Int) < (T : Int) := by omega
          have hj : j = T := by have := hg.out; omega
          subst hj
          have hT2 : D.take j = D.take 64 := by
            by_cases h : D.length ≤ 64
            · rw [List.take_of_length_le (by omega), List.take_of_length_le h]
            · have : j = 64 := by omega
              rw [this]
          have hJ' := hJ.out
          rw [hT2] at hJ'
          obtain ⟨ds, hds⟩ : ∃ ds, pickD L (D.take 64) = ds := ⟨_, rfl⟩
          rw [hds] at hJ'
          have s0 := hJ'.s.cell 0
          have s1 := hJ'.s.cell 1
          have s2 := hJ'.s.cell 2
          have s3 := hJ'.s.cell 3
          have r0 := hJ'.r0.cell 0
          have r1 := hJ'.r0.cell 1
          have r2 := hJ'.r0.cell 2
          have r3 := hJ'.r0.cell 3
          have z0 := hJ'.r0.frozen 0
          have z1 := hJ'.r0.frozen 1
          have z2 := hJ'.r0.frozen 2
          have z3 := hJ'.r0.frozen 3
          have hsl := hJ'.s.lt
          have HZ := Lib.hid (And.intro hJ' hds)
          clear hJ' hds hlt hT2 hg hJ
          go_wp2_with (fail)
          obtain ⟨W9, hW9⟩ : ∃ W9, (((wr.setCell ⟨w.heap.size, 0, none⟩ (.string n)).setCell ⟨w.heap.size, 1, none⟩ (.int .u16 t)).setCell ⟨w.heap.size, 2, none⟩ (.int .u32 ml)).setCell ⟨w.heap.size, 3, none⟩ (.slice Ad ds.length cd) = W9 := ⟨_, rfl⟩
          rw [hW9]
          have hR : Blk W9 w.heap.size 36 #[.string n, .int .u16 t, .int .u32 ml, .slice Ad ds.length cd] := by
            rw [← hW9]
            have h := (((HZ.out.1.r0.set_ 0 (.string n)).set_ 1 (.int .u16 t)).set_ 2 (.int .u32 ml)).set_ 3 (.slice Ad ds.length cd)
            simpa using h
          have hS9 : Sl W9 1 (.slice Ad ds.length cd) ds.length (ds.map Value.string) := by
            rw [← hW9]
            exact (((HZ.out.1.dsl.far (p := ⟨w.heap.size, 0, none⟩) (fun k hk => (HZ.out.1.od k hk).2.1) _).far (p := ⟨w.heap.size, 1, none⟩) (fun k hk => (HZ.out.1.od k hk).2.1) _).far (p := ⟨w.heap.size, 2, none⟩) (fun k hk => (HZ.out.1.od k hk).2.1) _).far (p := ⟨w.heap.size, 3, none⟩) (fun k hk => (HZ.out.1.od k hk).2.1) _
          have hB9 : Below w.heap.size w W9 := by
            rw [← hW9]
            exact (((HZ.out.1.bl.setCell (p := ⟨w.heap.size, 0, none⟩) (Nat.le_refl _) _).setCell (p := ⟨w.heap.size, 1, none⟩) (Nat.le_refl _) _).setCell (p := ⟨w.heap.size, 2, none⟩) (Nat.le_refl _) _).setCell (p := ⟨w.heap.size, 3, none⟩) (Nat.le_refl _) _
          have e0 := hR.cell 0
          have e1 := hR.cell 1
          have e2 := hR.cell 2
          have e3 := hR.cell 3
          refine bodyPost_ret (v := .agg #[.string n, .int .u16 t, .int .u32 ml, .slice Ad ds.length cd]) (by simp [results, Tryz.results37, go_sem, e0, e1, e2, e3]) rfl ?_
          have hmm := HL.out.1
          have hff := HL.out.2.2
          have hDD := HD.out.2.2
          have hdd := HZ.out.2
          have p1 := HP.out.1
          have p2 := HP.out.2.1
          rw [← hff] at hDD p1 p2
          refine ⟨P', ds, Ad, cd, p1, p2, ?_, ?_, hS9, fun k hk => (HZ.out.1.od k hk).1, hB9⟩
          · rw [hDD, hdd]
          · rw [← hmm]; rfl
end Go.Proofs.YthnngndnpigjbaaGreat
