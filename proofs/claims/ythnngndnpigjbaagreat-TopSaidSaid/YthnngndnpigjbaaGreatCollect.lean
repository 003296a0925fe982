/- The walks of slices.AppendSeq, slices.Collect at texts, of package walk's rising, of Less. -/
import Derived.Test.YthnngndnpigjbaaGreatRev
import Derived.Test.YthnngndnpigjbaaGreatCmp
import Derived.Test.YthnngndnpigjbaaGreatCut
import Derived.Test.YthnngndnpigjbaaGreatLabelsM
namespace Go.Proofs.YthnngndnpigjbaaGreat
open Go.RowKit Go.Shelf Go.Lib
attribute [local go_sem] Oper.semAt_some

/-- A new slice of texts. -/
def CollPost (L : List Bs) (w : World) (e : Ending) (w' : World) : Prop :=
  ∃ A c, e = .returned (.slice A L.length c) ∧ Sl w' 1 (.slice A L.length c) L.length (strs L) ∧ (∀ g, (Value.slice A L.length c).ownBlock = some g → w.heap.size ≤ g) ∧ Below w.heap.size w w'

set_option maxRecDepth 100000 in
set_option maxHeartbeats 4000000 in
theorem appendSeq_any {gf : Nat} {lb : Array Value} {b c : Nat} (L : List Bs) (w : World) (hseq : SeqM Tryz.prog gf lb (fun x : Bs => #[Value.string ⟨x.toArray⟩]) b c L w) (hbc : c ≤ w.heap.size)
    (eg : ∀ args w, (callFunc gf args).run Tryz.prog w = .ok (.enter gf args) w) (hL : L.length ≤ 1000000) :
    Calls Tryz.prog 99 #[.slice none 0 0, .func (.func gf) #[] lb] w (CollPost L w) := by
  obtain ⟨i0, hi0, hz0, hz1, hz2⟩ := info_parts info_str
  obtain ⟨n, hn⟩ : ∃ n : Nat, 8 ≤ n := ⟨8, by omega⟩
  refine (callsIn_wide (n := n)).1 ?_
  have h1n : 1 ≤ n := by omega
  refine callsIn_of_wp_marks Tryz.func99 rfl trivial ?_ rfl
  simp only [Tryz.ntmps99, List.size_toArray, List.length_cons, List.length_nil, Nat.reduceAdd, Nat.reduceSub, Array.replicate_succ, Array.replicate_zero, List.push_toArray, List.append_toArray, List.nil_append, List.cons_append]
  gi_wp2_with (fail)
  obtain ⟨W0, hW0⟩ : ∃ W0, w.alloc (.cells #[.slice none 0 0] 34) = W0 := ⟨_, rfl⟩
  have hsz0 : W0.heap.size = w.heap.size + 1 := by rw [← hW0]; simp
  have hbW : Below w.heap.size w W0 := by rw [← hW0]; exact (Below.refl _ _).alloc (Nat.le_refl _) _
  have hout : Blk W0 w.heap.size 34 #[.slice none 0 0] := by rw [← hW0]; exact Blk.new w _ _
  rw [hW0]
  clear hW0
  apply rangeM (gf := gf) (lb := lb) rfl eg hseq (by omega) hbW (fun _ => rfl)
    (fun X pre V => ∃ v, Blk V w.heap.size 34 #[v] ∧ Sl V 1 v pre.length (strs pre) ∧ (∀ g, v.ownBlock = some g → X ≤ g) ∧ Below w.heap.size w V ∧ X ≤ V.heap.size ∧ W0.heap.size ≤ X)
    (fun _ _ _ _ => False)
    ?hI (fun _ _ _ _ _ h => h.elim) ?h0
  case hI =>
    rintro X pre A A' ⟨v, h1, h2, h3, h4, h5, h6⟩ ho
    exact ⟨v, (ho.block _ h1.lt (.inl (by omega))).trans h1, h2.keep ho.size fun g hg => ho.block g (h2.lt g hg) (.inr (h3 g hg)), h3, ⟨ho.os.trans h4.os, ho.tape.trans h4.tape, ho.output.trans h4.output, Nat.le_trans h4.size ho.size, fun i hi => (ho.block i (by have := h4.size; omega) (.inl (by omega))).trans (h4.block i hi)⟩, Nat.le_trans h5 ho.size, h6⟩
  case h0 =>
    intro X V hV hX
    exact ⟨_, (hV.block _ (by omega)).trans hout, Sl.nil _ _, fun g hg => by simp [Value.ownBlock] at hg, hbW.trans (hV.mono hbW.size), by omega, by have := hV.size; omega⟩
  case hassign =>
    intro l x V K hK
    gi_wp2
    exact hK
  case hbody =>
    rintro l X pre x V hV ⟨v, h1, h2, h3, h4, h5, h6⟩ hpre
    obtain ⟨A, cc, rfl, hc1, hc2⟩ := h2.shape
    have c0 : V.cell? ⟨w.heap.size, 0, none⟩ = some (.slice A pre.length cc) := h1.cell 0
    have f0 := h1.frozen 0
    have hlen2 : pre.length < L.length := by have := hpre.length_le; simp at this; omega
    have hsl : Sl (V.alloc (.cells #[.string ⟨x.toArray⟩] 9)) 1 (.slice A pre.length cc) pre.length (strs pre) := h2.alloc _
    have hsrc := src_new (P := Tryz.prog) Tryz.underlying34 V 9 (.string ⟨x.toArray⟩) rfl
    have HSL := Lib.hid hsl
    have HSR := Lib.hid hsrc
    have HV := Lib.hid (And.intro h1 (And.intro h2 (And.intro h3 (And.intro h4 (And.intro h5 (And.intro h6 hV))))))
    clear hpre h1 h2 h3 h4 h5 h6 hsl hsrc hV hout hseq
    gi_wp2_with (gi_at_builtin; go_must (refine wpListIn_append_sl _ rfl (.tmp 8) (.tmp 10) 34 34 rfl 9 i0 (.string ⟨#[]⟩) 1 16 Tryz.underlying34 hi0 hz0 hz1 hz2 rfl (.slice A pre.length cc) pre.length (strs pre) rfl HSL.out _ rfl 1 [.string ⟨x.toArray⟩] HSR.out (by unfold maxLen; omega) (by omega) ?_); intro v3 w3 hs3 hg3 hv3; obtain ⟨A3, c3, rfl, hc3, hm3⟩ := hs3.shape; have hx := HV.out; have k1 : Blk w3 w.heap.size 34 #[.slice A pre.length cc] := (hx.1.alloc _).grown hg3 (fun e => by have := hx.2.2.1 _ e.symm; have := hx.2.2.2.2.2.1; omega); have g0 := k1.cell 0; have p0 := k1.frozen 0; have H3 := Lib.hid (And.intro hs3 (And.intro hg3 (And.intro hv3 k1))); clear hs3 hg3 hv3 k1 hx hc3 hm3)
    obtain ⟨h1, h2, h3, h4, h5, h6, hV⟩ := HV.out
    obtain ⟨hs3, hg3, hv3, k1⟩ := H3.out
    have hrow : ∀ i, (Value.slice A pre.length cc).ownBlock = some i → (i < W0.heap.size ∨ X ≤ i) ∧ (i < b ∨ c ≤ i) := fun i hi => by have := h3 i hi; omega
    have hown := own_from h3 (by simp; omega) hv3
    refine ⟨(((KeepX.refl _ _ _ _ V).alloc _).grown hg3 hrow).trans (.cell _ (by show (w.heap.size < _ ∨ _) ∧ (w.heap.size < _ ∨ _ ≤ w.heap.size); omega)), _, k1.set_ 0 _, ?_, hown, ?_, ?_, h6⟩
    · rw [List.length_append, strs_snoc]
      exact hs3.far (p := ⟨w.heap.size, 0, none⟩) (fun g hg => by have := hown g hg; show g ≠ w.heap.size; omega) _
    · exact ((h4.alloc (by omega) _).grown hg3 (by simp; omega) (fun g hg => by have := h3 g hg; omega)).setCell (p := ⟨w.heap.size, 0, none⟩) (Nat.le_refl _) _
    · have := hg3.size
      simp [World.setCell] at this ⊢
      omega
  case hdone =>
    rintro D X V hD hD2 ⟨v, h1, h2, h3, h4, h5, h6⟩ hK
    obtain ⟨A, cc, rfl, hc1, hc2⟩ := h2.shape
    have c0 : V.cell? ⟨w.heap.size, 0, none⟩ = some (.slice A L.length cc) := h1.cell 0
    have H := Lib.hid (And.intro h2 (And.intro h3 (And.intro h4 (And.intro h6 hK))))
    clear h1 h2 h3 h4 h6 hc1 hc2 hK hseq
    gi_wp2_with (fail)
    obtain ⟨h2, h3, h4, h6, hK⟩ := H.out
    have HKB : Below w.heap.size w (V.putObj D (.deferred none)) := h4.trans (belowK_b (w := w) (Nat.le_refl _) V D _ _ (by omega) hK rfl rfl)
    have hsl : Sl (V.putObj D (.deferred none)) 1 (.slice A L.length cc) L.length (strs L) := h2.keep (by simp) fun g hg => World.putObj_heap_other (by have := h3 g hg; omega)
    exact ⟨by simp, .inl ⟨_, _, rfl, run_takeDeferred hK, _, results_tmp (t := 4) rfl _ _ _, A, cc, rfl, hsl, fun g hg => by have := h3 g hg; omega, HKB⟩⟩
  case hstop =>
    rintro D X c pre V hD _ _ h _
    exact h.elim

set_option maxRecDepth 100000 in
theorem collect_any {gf : Nat} {lb : Array Value} {b c : Nat} (L : List Bs) (w : World) (hseq : SeqM Tryz.prog gf lb (fun x : Bs => #[Value.string ⟨x.toArray⟩]) b c L w) (hbc : c ≤ w.heap.size)
    (eg : ∀ args w, (callFunc gf args).run Tryz.prog w = .ok (.enter gf args) w) (hL : L.length ≤ 1000000) :
    Calls Tryz.prog 84 #[.func (.func gf) #[] lb] w (CollPost L w) := by
  have H := Lib.hid (appendSeq_any L w hseq hbc eg hL)
  clear hseq
  go_enter Tryz.func84, Tryz.ntmps84
  go_wp2_with (fail)
  refine H.out.mono ?_
  rintro e w1 ⟨A, cc, rfl, h1, h2, h3⟩
  have HH := Lib.hid (And.intro h1 (And.intro h2 h3))
  clear h1 h2 h3
  go_wp2_with (fail)
  go_ret
  exact ⟨A, cc, rfl, HH.out.1, HH.out.2.1, HH.out.2.2⟩
end Go.Proofs.YthnngndnpigjbaaGreat
