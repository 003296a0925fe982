/- The walk of hardtacklaw02.list. -/
import Derived.Test.YtjhhhkhcnohmiaaCollect
import Derived.Test.YtjhhhkhcnohmiaaUpM
namespace Go.Proofs.Ytjhhhkhcnohmiaa
open Go.RowKit Go.Shelf Go.Lib
attribute [local go_sem] Oper.semAt_some

theorem ups_le (l : Bs) : (upsL l).length ≤ 256 := by
  by_cases h : isName l = true
  · rw [ups_length h]
    have h1 := ((isName_iff _).1 h).1
    have h2 := labs_length_le l
    omega
  · unfold upsL; rw [if_neg h]; simp

set_option maxRecDepth 100000 in
set_option maxHeartbeats 4000000 in
theorem list_any (s : ByteArray) (hs : s.size ≤ maxLen) (w : World) : Calls Try.prog 40 #[.string s] w (CollPost (upsL s.data.toList) w) := by
  obtain ⟨i0, hi0, hz0, hz1, hz2⟩ := info_parts info_str
  obtain ⟨n, hn⟩ : ∃ n : Nat, 8 ≤ n := ⟨8, by omega⟩
  have hle := ups_le s.data.toList
  obtain ⟨L, hL⟩ : ∃ L, upsL s.data.toList = L := ⟨_, rfl⟩
  rw [hL] at hle ⊢
  have HL := Lib.hid hL
  clear hL
  have hnil : ∀ (lb : Array Value) (W : World), (binOp .eql 53 (.func (.func 72) #[] lb) .nilFunc).run Try.prog W = .ok (.bool false) W := fun _ _ => by rfl
  refine (callsIn_wide (n := n)).1 ?_
  have h1n : 1 ≤ n := by omega
  refine callsIn_of_wp_marks Try.func40 rfl trivial ?_ rfl
  simp only [Try.ntmps40, List.size_toArray, List.length_cons, List.length_nil, Nat.reduceAdd, Nat.reduceSub, Array.replicate_succ, Array.replicate_zero, List.push_toArray, List.append_toArray, List.nil_append, List.cons_append]
  gi_wp2_with (fail)
  refine ⟨trivial, ?_⟩
  refine (Up_in _ s _).mono ?_
  rintro e w' ⟨rfl, rfl⟩
  gi_wp2_with (fail)
  clear hnil
  obtain ⟨W0, hW0⟩ : ∃ W0, ((w.alloc (.cells #[.slice none 0 0] 45)).alloc (.cells #[.slice none 0 0] 45)).alloc (.cells #[.string s] 9) = W0 := ⟨_, rfl⟩
  have hsz0 : W0.heap.size = w.heap.size + 3 := by rw [← hW0]; simp
  have hbW : Below w.heap.size w W0 := by rw [← hW0]; exact (((Below.refl _ _).alloc (Nat.le_refl _) _).alloc (by simp) _).alloc (by simp; omega) _
  have hres : Blk W0 w.heap.size 45 #[.slice none 0 0] := by rw [← hW0]; exact ((Blk.new w _ _).alloc _).alloc _
  have hout : Blk W0 (w.heap.size + 1) 45 #[.slice none 0 0] := by
    rw [← hW0]
    have := (Blk.new (w.alloc (.cells #[.slice none 0 0] 45)) 45 #[.slice none 0 0]).alloc (.cells #[.string s] 9)
    rw [World.size_alloc] at this
    exact this
  have hstr : Blk W0 (w.heap.size + 1 + 1) 9 #[.string s] := by
    rw [← hW0]
    have := Blk.new ((w.alloc (.cells #[.slice none 0 0] 45)).alloc (.cells #[.slice none 0 0] 45)) 9 #[.string s]
    rw [World.size_alloc, World.size_alloc] at this
    exact this
  have hsq := Up1_M (w.heap.size + 1 + 1) s hs W0 hstr
  rw [HL.out] at hsq
  have hw3 : ((w.alloc (.cells #[.slice none 0 0] 45)).alloc (.cells #[.slice none 0 0] 45)).heap.size = w.heap.size + 1 + 1 := by simp
  try rw [hW0]
  clear hW0
  apply rangeM (gf := 72) (lb := #[.pointer (some ⟨w.heap.size + 1 + 1, 0, none⟩)]) rfl (enters_of Try.func72 (by kernel_rfl) rfl) hsq (by omega) (Below.refl _ _) (fun _ => rfl)
    (fun X pre V => Blk V w.heap.size 45 #[.slice none 0 0] ∧ ∃ v, Blk V (w.heap.size + 1) 45 #[v] ∧ Sl V 1 v pre.length (strs pre) ∧ (∀ g, v.ownBlock = some g → X ≤ g) ∧ Below w.heap.size w V ∧ X ≤ V.heap.size ∧ W0.heap.size ≤ X)
    (fun _ _ _ _ => False)
    ?hI (fun _ _ _ _ _ h => h.elim) ?h0
  case hI =>
    rintro X pre A A' ⟨h0, v, h1, h2, h3, h4, h5, h6⟩ ho
    exact ⟨(ho.block _ h0.lt (.inl (by omega))).trans h0, v, (ho.block _ h1.lt (.inl (by omega))).trans h1, h2.keep ho.size fun g hg => ho.block g (h2.lt g hg) (.inr (h3 g hg)), h3, ⟨ho.os.trans h4.os, ho.tape.trans h4.tape, ho.output.trans h4.output, Nat.le_trans h4.size ho.size, fun i hi => (ho.block i (by have := h4.size; omega) (.inl (by omega))).trans (h4.block i hi)⟩, Nat.le_trans h5 ho.size, h6⟩
  case h0 =>
    intro X V hV hX
    exact ⟨(hV.block _ (by omega)).trans hres, _, (hV.block _ (by omega)).trans hout, Sl.nil _ _, fun g hg => by simp [Value.ownBlock] at hg, hbW.trans (hV.mono hbW.size), by omega, by have := hV.size; omega⟩
  case hassign =>
    intro l x V K hK
    gi_wp2
    exact hK
  case hbody =>
    rintro l X pre x V hV ⟨h0, v, h1, h2, h3, h4, h5, h6⟩ hpre
    obtain ⟨A, cc, rfl, hc1, hc2⟩ := h2.shape
    have c0 : V.cell? ⟨w.heap.size + 1, 0, none⟩ = some (.slice A pre.length cc) := h1.cell 0
    have f0 := h1.frozen 0
    have hlen2 : pre.length < L.length := by have := hpre.length_le; simp at this; omega
    have hlen3 : ¬ 300 < (pre.length : Int) + 1 := by omega
    have hlen4 : (pre.length : Int) + 1 ≤ 300 := by omega
    have hsl : Sl (V.alloc (.cells #[.string ⟨x.toArray⟩] 9)) 1 (.slice A pre.length cc) pre.length (strs pre) := h2.alloc _
    have hsrc := src_new (P := Try.prog) Try.underlying45 V 9 (.string ⟨x.toArray⟩) rfl
    have HSL := Lib.hid hsl
    have HSR := Lib.hid hsrc
    have HV := Lib.hid (And.intro h1 (And.intro h2 (And.intro h3 (And.intro h4 (And.intro h5 (And.intro (show w.heap.size + 3 ≤ X by omega) (And.intro hV (And.intro h0 h6))))))))
    have hlV : w.heap.size + 1 < V.heap.size := by omega
    have HZ0 := Lib.hid hsz0
    clear hsz0
    clear hpre h0 h1 h2 h3 h4 h5 h6 hsl hsrc hV hout hsq hres hstr
    gi_wp2_with (gi_at_builtin; go_must (refine wpListIn_append_sl _ rfl (.tmp 12) (.tmp 14) 45 45 rfl 9 i0 (.string ⟨#[]⟩) 1 16 Try.underlying45 hi0 hz0 hz1 hz2 rfl (.slice A pre.length cc) pre.length (strs pre) rfl HSL.out _ rfl 1 [.string ⟨x.toArray⟩] HSR.out (by unfold maxLen; omega) (by omega) ?_); intro v3 w3 hs3 hg3 hv3; obtain ⟨A3, c3, rfl, hc3, hm3⟩ := hs3.shape; have hx := HV.out; have k1 : Blk w3 (w.heap.size + 1) 45 #[.slice A pre.length cc] := (hx.1.alloc _).grown hg3 (fun e => by have := hx.2.2.1 _ e.symm; have := hx.2.2.2.2.2.1; omega); have g0 := k1.cell 0; have p0 := k1.frozen 0; have H3 := Lib.hid (And.intro hs3 (And.intro hg3 (And.intro hv3 k1))); clear hs3 hg3 hv3 k1 hx hc3 hm3)
    obtain ⟨h1, h2, h3, h4, h5, _, hV, h0, h6⟩ := HV.out
    obtain ⟨hs3, hg3, hv3, k1⟩ := H3.out
    have hsz0 := HZ0.out
    have hrow : ∀ i, (Value.slice A pre.length cc).ownBlock = some i → (i < W0.heap.size ∨ X ≤ i) ∧ (i < w.heap.size + 1 + 1 ∨ w.heap.size + 1 + 1 + 1 ≤ i) := fun i hi => by have := h3 i hi; omega
    have hown := own_from h3 (by simp; omega) hv3
    have k0 : Blk w3 w.heap.size 45 #[.slice none 0 0] := (h0.alloc _).grown hg3 (fun e => by have := h3 _ e.symm; omega)
    refine ⟨(((KeepX.refl _ _ _ _ V).alloc _).grown hg3 hrow).trans (.cell _ (by show (w.heap.size + 1 < _ ∨ _) ∧ (w.heap.size + 1 < _ ∨ _ ≤ w.heap.size + 1); omega)), k0.far (p := ⟨w.heap.size + 1, 0, none⟩) (by show w.heap.size ≠ w.heap.size + 1; omega) _, _, k1.set_ 0 _, ?_, hown, ?_, ?_, h6⟩
    · rw [List.length_append, strs_snoc]
      exact hs3.far (p := ⟨w.heap.size + 1, 0, none⟩) (fun g hg => by have := hown g hg; show g ≠ w.heap.size + 1; omega) _
    · exact ((h4.alloc (by omega) _).grown hg3 (by simp; omega) (fun g hg => by have := h3 g hg; omega)).setCell (p := ⟨w.heap.size + 1, 0, none⟩) (by show w.heap.size ≤ w.heap.size + 1; omega) _
    · have := hg3.size
      simp [World.setCell] at this ⊢
      omega
  case hdone =>
    rintro D X V hD hD2 ⟨h0, v, h1, h2, h3, h4, h5, h6⟩ hK
    obtain ⟨A, cc, rfl, hc1, hc2⟩ := h2.shape
    have c0 : V.cell? ⟨w.heap.size + 1, 0, none⟩ = some (.slice A L.length cc) := h1.cell 0
    have f0 := h0.frozen 0
    have c1 := h0.cell 0
    have H := Lib.hid (And.intro h2 (And.intro h3 (And.intro h4 (And.intro h6 (And.intro h0 hK)))))
    clear h0 h1 h2 h3 h4 h6 hc1 hc2 hK hsq hres hout hstr
    gi_wp2_with (fail)
    obtain ⟨h2, h3, h4, h6, h0, hK⟩ := H.out
    obtain ⟨V2, hV2⟩ : ∃ V2, V.setCell ⟨w.heap.size, 0, none⟩ (.slice A L.length cc) = V2 := ⟨_, rfl⟩
    have hK2 : V2.heap[D]? = some (.deferred (some [])) := by rw [← hV2]; exact (Below.heap_setCell _ _ _ _ (by show D ≠ w.heap.size; omega)).trans hK
    have h02 : Blk V2 w.heap.size 45 #[.slice A L.length cc] := by rw [← hV2]; exact h0.set_ 0 _
    have h42 : Below w.heap.size w V2 := by rw [← hV2]; exact h4.setCell (p := ⟨w.heap.size, 0, none⟩) (Nat.le_refl _) _
    have hsl2 : Sl V2 1 (.slice A L.length cc) L.length (strs L) := by rw [← hV2]; exact h2.far (p := ⟨w.heap.size, 0, none⟩) (fun g hg => by have := h3 g hg; show g ≠ w.heap.size; omega) _
    rw [hV2]
    have HKB : Below w.heap.size w (V2.putObj D (.deferred none)) := h42.trans (belowK_b (w := w) (Nat.le_refl _) V2 D _ _ (by omega) hK2 rfl rfl)
    have hsl : Sl (V2.putObj D (.deferred none)) 1 (.slice A L.length cc) L.length (strs L) := hsl2.keep (by simp) fun g hg => World.putObj_heap_other (by have := h3 g hg; omega)
    have d0 : (V2.putObj D (.deferred none)).cell? ⟨w.heap.size, 0, none⟩ = some (.slice A L.length cc) := (World.cell?_of_block (World.putObj_heap_other (show w.heap.size ≠ D by omega))).trans (h02.cell 0)
    exact ⟨by simp, .inl ⟨_, _, rfl, run_takeDeferred hK2, .slice A L.length cc, by simp [results, Try.results40, go_sem, d0], A, cc, rfl, hsl, fun g hg => by have := h3 g hg; omega, HKB⟩⟩
  case hstop =>
    rintro D X c pre V hD hD2 hpre h _
    exact h.elim
end Go.Proofs.Ytjhhhkhcnohmiaa
