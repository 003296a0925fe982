/- The walks of slices.AppendSeq, slices.Collect at records. Conditions: none. -/
import Derived.Test.YthnngndnpigjbaaGreatRR
import Derived.Test.YthnngndnpigjbaaGreatRegC
import Derived.Test.YthnngndnpigjbaaGreatRes
import Derived.Sort.LoopGhostIn
import Derived.OwnWalkIn
import Derived.OwnWalk
import Derived.Shelf.Abstract
import Derived.Deep.DeepMust
namespace Go.Proofs.YthnngndnpigjbaaGreat
open Go.RowKit Go.Shelf Go.Lib
attribute [local go_sem] Oper.semAt_some

theorem info_rr : (Tryz.prog.info? 33).map (fun i => (i.zero, i.size, i.bytes)) = some (some (.agg #[.string ⟨#[]⟩, .int .u16 0, .int .u16 0, .int .u32 0, .string ⟨#[]⟩]), 5, 40) := by kernel_rfl
theorem rr_one (xs : List RRec) : ∀ u ∈ flatV RRec.vs xs, u.oneCell' = true := by
  intro u hu
  obtain ⟨e, _, hu⟩ := List.mem_flatMap.1 hu
  simp only [RRec.vs, List.mem_cons, List.not_mem_nil, or_false] at hu
  rcases hu with rfl | rfl | rfl | rfl | rfl <;> rfl
/-- One record more in a new block, as the source of an append. -/
theorem src_rr {P : Program} {tx e' : TypeId} (hk : P.underlying tx = some (.slice e')) (w : World) (t : TypeId) (n d : ByteArray) (ty cl tl : Int) :
    Src P 5 tx (.slice (some ⟨w.heap.size, 0, none⟩) 1 1) 1 (flatV RRec.vs [⟨n, ty, cl, tl, d⟩]) (w.alloc (.cells #[.string n, .int .u16 ty, .int .u16 cl, .int .u32 tl, .string d] t)) :=
  Src.ofSlice _ hk ⟨w.heap.size, 0, none⟩ 1 1 _ rfl (fun j x hx => by
    rw [add_lit', Nat.zero_add, World.cell?_alloc_new]
    rw [flatV_one] at hx
    rw [← hx, RRec.vs]
    simp) (rr_one _)
/-- A new slice of records. -/
def CollPostR (L : List RRec) (w : World) (e : Ending) (w' : World) : Prop :=
  ∃ A c, e = .returned (.slice A L.length c) ∧ Sl w' 5 (.slice A L.length c) L.length (flatV RRec.vs L) ∧ (∀ g, (Value.slice A L.length c).ownBlock = some g → w.heap.size ≤ g) ∧ Below w.heap.size w w'

set_option maxRecDepth 100000 in
set_option maxHeartbeats 4000000 in
theorem appendSeqR_any {gf : Nat} {lb : Array Value} {K : Nat → Prop} (L : List RRec) (w : World) (hseq : SeqK Tryz.prog gf lb (fun x : RRec => #[x.val]) K L w) (hK : ∀ i, K i → i < w.heap.size)
    (eg : ∀ args w, (callFunc gf args).run Tryz.prog w = .ok (.enter gf args) w) (hL : L.length ≤ 1000000) :
    Calls Tryz.prog 54 #[.slice none 0 0, .func (.func gf) #[] lb] w (CollPostR L w) := by
  obtain ⟨i0, hi0, hz0, hz1, hz2⟩ := info_parts info_rr
  obtain ⟨n, hn⟩ : ∃ n : Nat, 8 ≤ n := ⟨8, by omega⟩
  refine (callsIn_wide (n := n)).1 ?_
  have h1n : 1 ≤ n := by omega
  refine callsIn_of_wp_marks Tryz.func54 rfl trivial ?_ rfl
  simp only [Tryz.ntmps54, List.size_toArray, List.length_cons, List.length_nil, Nat.reduceAdd, Nat.reduceSub, Array.replicate_succ, Array.replicate_zero, List.push_toArray, List.append_toArray, List.nil_append, List.cons_append]
  gi_wp2_with (fail)
  obtain ⟨W0, hW0⟩ : ∃ W0, w.alloc (.cells #[.slice none 0 0] 22) = W0 := ⟨_, rfl⟩
  have hsz0 : W0.heap.size = w.heap.size + 1 := by rw [← hW0]; simp
  have hbW : Below w.heap.size w W0 := by rw [← hW0]; exact (Below.refl _ _).alloc (Nat.le_refl _) _
  have hout : Blk W0 w.heap.size 22 #[.slice none 0 0] := by rw [← hW0]; exact Blk.new w _ _
  rw [hW0]
  clear hW0
  apply rangeKA (gf := gf) (lb := lb) rfl eg hseq (fun i hi => by have := hK i hi; omega) hbW (fun _ => rfl)
    (fun pre V => ∃ v, Blk V w.heap.size 22 #[v] ∧ Sl V 5 v pre.length (flatV RRec.vs pre) ∧ (∀ g, v.ownBlock = some g → W0.heap.size + 2 ≤ g) ∧ Below w.heap.size w V ∧ W0.heap.size ≤ V.heap.size)
    (fun _ _ _ => False)
    ?hI (fun _ _ _ _ h => h.elim) ?h0 (fun x => .cells #[.string x.n, .int .u16 x.t, .int .u16 x.c, .int .u32 x.l, .string x.d] 33)
  case hI =>
    rintro pre A A' ⟨v, h1, h2, h3, h4, h5⟩ ho
    exact ⟨v, (ho.block _ h1.lt (.inl (by omega))).trans h1, h2.keep ho.size fun g hg => ho.block g (h2.lt g hg) (.inr (h3 g hg)), h3, ⟨ho.os.trans h4.os, ho.tape.trans h4.tape, ho.output.trans h4.output, Nat.le_trans h4.size ho.size, fun i hi => (ho.block i (by have := h4.size; omega) (.inl (by omega))).trans (h4.block i hi)⟩, Nat.le_trans h5 ho.size⟩
  case h0 =>
    exact ⟨_, hout, Sl.nil _ _, fun g hg => by simp [Value.ownBlock] at hg, hbW, by omega⟩
  case hassign =>
    intro l x V g K0 hg hK0
    dsimp only [RRec.val]
    gi_wp2
    rw [← hg]
    exact hK0
  case hbody =>
    rintro l pre x gb V hgb hgs hgo ⟨v, h1, h2, h3, h4, h5⟩ hpre
    obtain ⟨A, cc, rfl, hc1, hc2⟩ := h2.shape
    have c0 : V.cell? ⟨w.heap.size, 0, none⟩ = some (.slice A pre.length cc) := h1.cell 0
    have f0 := h1.frozen 0
    obtain ⟨xn, xt, xc, xl, xd⟩ := x
    have hG : Blk V gb 33 #[.string xn, .int .u16 xt, .int .u16 xc, .int .u32 xl, .string xd] := hgo
    have x0 := hG.cell 0
    have x1 := hG.cell 1
    have x2 := hG.cell 2
    have x3 := hG.cell 3
    have x4 := hG.cell 4
    have hlen2 : pre.length < L.length := by have := hpre.length_le; simp at this; omega
    have hsl : Sl (V.alloc (.cells #[.string xn, .int .u16 xt, .int .u16 xc, .int .u32 xl, .string xd] 33)) 5 (.slice A pre.length cc) pre.length (flatV RRec.vs pre) := h2.alloc _
    have hsrc := src_rr (P := Tryz.prog) Tryz.underlying22 V 33 xn xd xt xc xl
    have HSL := Lib.hid hsl
    have HSR := Lib.hid hsrc
    have HV := Lib.hid (And.intro h1 (And.intro h2 (And.intro h3 (And.intro h4 h5))))
    have HK := Lib.hid hK
    clear hpre h1 h2 h3 h4 h5 hsl hsrc hseq hG hgo hK
    gi_wp2_with (gi_at_builtin; go_must (refine wpListIn_append_sl _ rfl (.tmp 8) (.tmp 10) 22 22 rfl 33 i0 (.agg #[.string ⟨#[]⟩, .int .u16 0, .int .u16 0, .int .u32 0, .string ⟨#[]⟩]) 5 40 Tryz.underlying22 hi0 hz0 hz1 hz2 rfl (.slice A pre.length cc) pre.length (flatV RRec.vs pre) rfl HSL.out _ rfl 1 (flatV RRec.vs [⟨xn, xt, xc, xl, xd⟩]) HSR.out (by unfold maxLen; omega) (by omega) ?_); intro v3 w3 hs3 hg3 hv3; obtain ⟨A3, c3, rfl, hc3, hm3⟩ := hs3.shape; have hx := HV.out; have k1 : Blk w3 w.heap.size 22 #[.slice A pre.length cc] := (hx.1.alloc _).grown hg3 (fun e => by have := hx.2.2.1 _ e.symm; omega); have g0 := k1.cell 0; have p0 := k1.frozen 0; have H3 := Lib.hid (And.intro hs3 (And.intro hg3 (And.intro hv3 k1))); clear hs3 hg3 hv3 k1 hx hc3 hm3)
    obtain ⟨h1, h2, h3, h4, h5⟩ := HV.out
    obtain ⟨hs3, hg3, hv3, k1⟩ := H3.out
    have hrow : ∀ i, (Value.slice A pre.length cc).ownBlock = some i → ¬ ((W0.heap.size ≤ i ∧ i < W0.heap.size + 2) ∨ K i) := fun i hi => by
      have h9 := h3 i hi
      rintro (h | h)
      · omega
      · have := HK.out i h; omega
    have hown := own_from h3 (by simp; omega) hv3
    refine ⟨(((KeepS.refl _ V).alloc _).grown hg3 hrow).trans (.cell _ ?_), _, k1.set_ 0 _, ?_, hown, ?_, ?_⟩
    · rintro (h | h)
      · have h9 : W0.heap.size ≤ w.heap.size ∧ w.heap.size < W0.heap.size + 2 := h
        omega
      · have h9 : w.heap.size < w.heap.size := HK.out _ h
        omega
    · rw [List.length_append, flatV_append]
      exact hs3.far (p := ⟨w.heap.size, 0, none⟩) (fun g hg => by have := hown g hg; show g ≠ w.heap.size; omega) _
    · exact ((h4.alloc (by omega) _).grown hg3 (by simp; omega) (fun g hg => by have := h3 g hg; omega)).setCell (p := ⟨w.heap.size, 0, none⟩) (Nat.le_refl _) _
    · have := hg3.size
      simp [World.setCell] at this ⊢
      omega
  case hdone =>
    rintro D V hD ⟨v, h1, h2, h3, h4, h5⟩ hK0
    obtain ⟨A, cc, rfl, hc1, hc2⟩ := h2.shape
    have c0 : V.cell? ⟨w.heap.size, 0, none⟩ = some (.slice A L.length cc) := h1.cell 0
    have H := Lib.hid (And.intro h2 (And.intro h3 (And.intro h4 (And.intro hD hK0))))
    clear h1 h2 h3 h4 hc1 hc2 hK0 hseq hD
    gi_wp2_with (fail)
    obtain ⟨h2, h3, h4, hD, hK0⟩ := H.out
    have HKB : Below w.heap.size w (V.putObj D (.deferred none)) := h4.trans (belowK_b (w := w) (Nat.le_refl _) V D _ _ (by omega) hK0 rfl rfl)
    have hsl : Sl (V.putObj D (.deferred none)) 5 (.slice A L.length cc) L.length (flatV RRec.vs L) := h2.keep (by simp) fun g hg => World.putObj_heap_other (by have := h3 g hg; omega)
    exact ⟨by simp, .inl ⟨_, _, rfl, run_takeDeferred hK0, _, results_tmp (t := 4) rfl _ _ _, A, cc, rfl, hsl, fun g hg => by have := h3 g hg; omega, HKB⟩⟩
  case hstop =>
    rintro D c pre V hD _ h _
    exact h.elim

set_option maxRecDepth 100000 in
theorem collectR_any {gf : Nat} {lb : Array Value} {K : Nat → Prop} (L : List RRec) (w : World) (hseq : SeqK Tryz.prog gf lb (fun x : RRec => #[x.val]) K L w) (hK : ∀ i, K i → i < w.heap.size)
    (eg : ∀ args w, (callFunc gf args).run Tryz.prog w = .ok (.enter gf args) w) (hL : L.length ≤ 1000000) :
    Calls Tryz.prog 35 #[.func (.func gf) #[] lb] w (CollPostR L w) := by
  have H := Lib.hid (appendSeqR_any L w hseq hK eg hL)
  clear hseq
  go_enter Tryz.func35, Tryz.ntmps35
  go_wp2_with (fail)
  refine H.out.mono ?_
  rintro e w1 ⟨A, cc, rfl, h1, h2, h3⟩
  have HH := Lib.hid (And.intro h1 (And.intro h2 h3))
  clear h1 h2 h3
  go_wp2_with (fail)
  go_ret
  exact ⟨A, cc, rfl, HH.out.1, HH.out.2.1, HH.out.2.2⟩
end Go.Proofs.YthnngndnpigjbaaGreat
