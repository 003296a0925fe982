/- The walk of cut.Closest at a name. Conditions: none. -/
import Derived.Test.YtfipacfompihkaaCuts
import Derived.Deep.DeepCutAuto
namespace Go.Proofs.Ytfipacfompihkaa
open Go.RowKit Go.Lib
attribute [local go_sem] Oper.semAt_some

theorem cuts_in (n : Nat) (g : Nat) (N : ByteArray) (now : Int) (w : World) :
    CallsIn Fence.wide n Try.prog 55 #[.pointer (some ⟨g, 0, none⟩), .string N, .int .i64 now] w fun e w' => e = .returned (.func (.func 85) #[] #[.pointer (some ⟨w.heap.size + 1, 0, none⟩), .pointer (some ⟨w.heap.size, 0, none⟩), .pointer (some ⟨w.heap.size + 1 + 1, 0, none⟩)]) ∧ w' = ((w.alloc (.cells #[.pointer (some ⟨g, 0, none⟩)] 51)).alloc (.cells #[.string N] 9)).alloc (.cells #[.int .i64 now] 2) := by
  refine callsIn_of_wp Try.func55 rfl trivial ?_ rfl
  simp only [Try.ntmps55, List.size_toArray, List.length_cons, List.length_nil, Nat.reduceAdd, Nat.reduceSub, Array.replicate_succ, Array.replicate_zero, List.push_toArray, List.append_toArray, List.nil_append, List.cons_append]
  gi_wp2
  go_ret
  exact ⟨rfl, rfl⟩
theorem blk4c {w : World} {g : Nat} {t : TypeId} {a0 a1 a2 a3 : Value} (h : Blk w g t #[a0, a1, a2, a3]) (b0 b1 b2 b3 : Value) :
    Blk ((((w.setCell ⟨g, 0, none⟩ b0).setCell ⟨g, 1, none⟩ b1).setCell ⟨g, 2, none⟩ b2).setCell ⟨g, 3, none⟩ b3) g t #[b0, b1, b2, b3] := by
  have := (((h.set_ 0 b0).set_ 1 b1).set_ 2 b2).set_ 3 b3
  simpa using this
/-- Four stores into one block and one into the next: both, and what lay elsewhere. -/
theorem two_done {w : World} {g : Nat} {t t2 : TypeId} {a0 a1 a2 a3 c : Value} (h : Blk w g t #[a0, a1, a2, a3]) (h2 : Blk w (g + 1) t2 #[c]) (b0 b1 b2 b3 d : Value) :
    Blk (((((w.setCell ⟨g, 0, none⟩ b0).setCell ⟨g, 1, none⟩ b1).setCell ⟨g, 2, none⟩ b2).setCell ⟨g, 3, none⟩ b3).setCell ⟨g + 1, 0, none⟩ d) g t #[b0, b1, b2, b3] ∧
    Blk (((((w.setCell ⟨g, 0, none⟩ b0).setCell ⟨g, 1, none⟩ b1).setCell ⟨g, 2, none⟩ b2).setCell ⟨g, 3, none⟩ b3).setCell ⟨g + 1, 0, none⟩ d) (g + 1) t2 #[d] ∧
    KeepK (fun i => i ≠ g ∧ i ≠ g + 1) w (((((w.setCell ⟨g, 0, none⟩ b0).setCell ⟨g, 1, none⟩ b1).setCell ⟨g, 2, none⟩ b2).setCell ⟨g, 3, none⟩ b3).setCell ⟨g + 1, 0, none⟩ d) := by
  refine ⟨(blk4c h b0 b1 b2 b3).far (p := ⟨g + 1, 0, none⟩) (show g ≠ g + 1 by omega) _, ?_, ?_⟩
  · have := ((((h2.far (p := ⟨g, 0, none⟩) (show g + 1 ≠ g by omega) b0).far (p := ⟨g, 1, none⟩) (show g + 1 ≠ g by omega) b1).far (p := ⟨g, 2, none⟩) (show g + 1 ≠ g by omega) b2).far (p := ⟨g, 3, none⟩) (show g + 1 ≠ g by omega) b3).set_ 0 d
    simpa using this
  · exact (((((KeepK.refl _ w).setCell (p := ⟨g, 0, none⟩) (fun i hi => hi.1) b0).setCell (p := ⟨g, 1, none⟩) (fun i hi => hi.1) b1).setCell (p := ⟨g, 2, none⟩) (fun i hi => hi.1) b2).setCell (p := ⟨g, 3, none⟩) (fun i hi => hi.1) b3).setCell (p := ⟨g + 1, 0, none⟩) (fun i hi => hi.2) d
/-- What Closest tells. -/
def CloseP (V : Bs → Int → Option En) (N : ByteArray) (now : Int) (K : Nat → Prop) (w : World) (e : Ending) (w' : World) : Prop :=
  (∃ (x : SV) (k : Int), e = .returned (.tuple #[x.val, .int .i64 k]) ∧ (∀ up y, closeE V now (upsL N.data.toList) = some (up, y) → x.nm = ⟨up.toArray⟩ ∧ k = 0)) ∧ KeepK K w w'
set_option maxRecDepth 100000 in
set_option maxHeartbeats 4000000 in
theorem closest_any {w : World} {g mb room m : Nat} {L : Nat → Prop} {V : Bs → Int → Option En} (hC : CaV w g mb room m L V) (N : ByteArray) (hN : N.size ≤ maxLen) (hnm : isName N.data.toList = true) (now : Int) (hnow : 0 ≤ now ∧ now ≤ 4611686018427387904) :
    Calls Try.prog 23 #[.pointer (some ⟨g, 0, none⟩), .string N, .int .i64 now] w (CloseP V N now (fun i => i < w.heap.size ∧ ¬ L i) w) := by
  obtain ⟨n, hn⟩ : ∃ n : Nat, 8 ≤ n := ⟨8, by omega⟩
  refine (callsIn_wide (n := n)).1 ?_
  have h1n : 1 ≤ n := by omega
  have HCK := Lib.hid (fun W => Check_any N hN W)
  rw [show chkN N.data.toList = 0 from by unfold chkN; rw [if_pos hnm]] at HCK
  have HM := Lib.hid (And.intro hC (And.intro hN hnow))
  have hLw := hC.lt
  clear hC hN hnm hnow
  refine callsIn_of_wp_marks Try.func23 rfl trivial ?_ rfl
  simp only [Try.ntmps23, List.size_toArray, List.length_cons, List.length_nil, Nat.reduceAdd, Nat.reduceSub, Array.replicate_succ, Array.replicate_zero, List.push_toArray, List.append_toArray, List.nil_append, List.cons_append]
  gi_wp2_with (fail)
  obtain ⟨W1, hW1⟩ : ∃ W1, (w.alloc (.cells #[.string ⟨#[]⟩, .int .u16 0, .int .u32 0, .slice none 0 0] 49)).alloc (.cells #[.int .i64 0] 27) = W1 := ⟨_, rfl⟩
  have hz1 : W1.heap.size = w.heap.size + 2 := by rw [← hW1]; simp
  have hbA : Below w.heap.size w W1 := by rw [← hW1]; exact ((Below.refl _ _).alloc (Nat.le_refl _) _).alloc (by simp) _
  have r6 : Blk W1 w.heap.size 49 #[.string ⟨#[]⟩, .int .u16 0, .int .u32 0, .slice none 0 0] := by rw [← hW1]; exact (Blk.new w _ _).alloc _
  have r7 : Blk W1 (w.heap.size + 1) 27 #[.int .i64 0] := by
    rw [← hW1]
    have := Blk.new (w.alloc (.cells #[.string ⟨#[]⟩, .int .u16 0, .int .u32 0, .slice none 0 0] 49)) 27 #[.int .i64 0]
    rw [World.size_alloc] at this
    exact this
  rw [hW1]
  clear hW1
  refine ⟨trivial, ?_⟩
  refine (callsIn_wide.2 (HCK.out _)).mono ?_
  rintro e w2 ⟨rfl, hb2⟩
  have hbB := hbA.trans (hb2.mono hbA.size)
  have r6' := r6.below hb2 r6.lt
  have r7' := r7.below hb2 r7.lt
  have hz2 := hb2.size
  have B2 := Lib.hid (And.intro hbB (And.intro r6' (And.intro r7' (show w.heap.size + 2 ≤ w2.heap.size by omega))))
  clear hbA r6 r7 hb2 hbB r6' r7' hz1 hz2
  gi_wp2_with (fail)
  refine ⟨trivial, ?_⟩
  refine (cuts_in _ g N now _).mono ?_
  rintro e w' ⟨rfl, rfl⟩
  gi_wp2_with (fail)
  obtain ⟨W0, hW0⟩ : ∃ W0, ((w2.alloc (.cells #[.pointer (some ⟨g, 0, none⟩)] 51)).alloc (.cells #[.string N] 9)).alloc (.cells #[.int .i64 now] 2) = W0 := ⟨_, rfl⟩
  have hsz0 : W0.heap.size = w2.heap.size + 3 := by rw [← hW0]; simp
  have hb20 : Below w2.heap.size w2 W0 := by rw [← hW0]; exact (((Below.refl _ _).alloc (Nat.le_refl _) _).alloc (by simp) _).alloc (by simp; omega) _
  have k2 : Blk W0 w2.heap.size 51 #[.pointer (some ⟨g, 0, none⟩)] := by rw [← hW0]; exact ((Blk.new w2 _ _).alloc _).alloc _
  have k1 : Blk W0 (w2.heap.size + 1) 9 #[.string N] := by
    rw [← hW0]
    have := Blk.new (w2.alloc (.cells #[.pointer (some ⟨g, 0, none⟩)] 51)) 9 #[.string N]
    rw [World.size_alloc] at this
    exact this.alloc _
  have k3 : Blk W0 (w2.heap.size + 1 + 1) 2 #[.int .i64 now] := by
    rw [← hW0]
    have := Blk.new ((w2.alloc (.cells #[.pointer (some ⟨g, 0, none⟩)] 51)).alloc (.cells #[.string N] 9)) 2 #[.int .i64 now]
    rw [World.size_alloc, World.size_alloc] at this
    exact this
  obtain ⟨hbB, p6, p7, hz2⟩ := B2.out
  have hbW : Below w.heap.size w W0 := hbB.trans (hb20.mono hbB.size)
  have q6 := p6.below hb20 p6.lt
  have q7 := p7.below hb20 p7.lt
  rw [hW0]
  clear hW0 p6 p7
  apply rangeS (gf := 85) (lb := #[.pointer (some ⟨w2.heap.size + 1, 0, none⟩), .pointer (some ⟨w2.heap.size, 0, none⟩), .pointer (some ⟨w2.heap.size + 1 + 1, 0, none⟩)]) rfl (enters_of Try.func85 (by kernel_rfl) rfl)
    (cuts1_S (HM.out.1.low hbW) (w2.heap.size + 1) w2.heap.size (w2.heap.size + 1 + 1) N HM.out.2.1 now HM.out.2.2 k1 k2 k3 ⟨fun h => by have := hLw.2.2 _ h; omega, fun h => by have := hLw.2.2 _ h; omega, fun h => by have := hLw.2.2 _ h; omega⟩)
    (fun i hi => by have := hLw.2.2 i hi; omega) (fun i hi => hi.elim) (Below.refl _ _) (fun _ => rfl)
    (fun _ V' => Blk V' w.heap.size 49 #[.string ⟨#[]⟩, .int .u16 0, .int .u32 0, .slice none 0 0] ∧ Blk V' (w.heap.size + 1) 27 #[.int .i64 0] ∧ KeepK (fun i => i < w.heap.size ∧ ¬ L i) w V')
    (fun _ V' => ∃ x : SV, CutG V now N x ∧ Blk V' w.heap.size 49 #[.string x.nm, .int .u16 x.t, .int .u32 x.l, .slice x.A x.n x.c] ∧ Blk V' (w.heap.size + 1) 27 #[.int .i64 0] ∧ KeepK (fun i => i < w.heap.size ∧ ¬ L i) w V')
    ?hI ?hIx ?h0 (fun x => .cells #[.string x.nm, .int .u16 x.t, .int .u32 x.l, .slice x.A x.n x.c] 49)
  case hI =>
    rintro X A A' ⟨h1, h2, h3⟩ ho
    have hA := h3.size
    exact ⟨(ho.block _ h1.lt (.inl (by omega)) (fun h => by have := hLw.2.2 _ h; omega)).trans h1, (ho.block _ h2.lt (.inl (by omega)) (fun h => by have := hLw.2.2 _ h; omega)).trans h2, h3.trans ⟨ho.os, ho.tape, ho.output, ho.size, fun i hi => ho.block i (by omega) (.inl (by omega)) hi.2⟩⟩
  case hIx =>
    rintro X A A' ⟨x, h0, h1, h2, h3⟩ ho
    have hA := h3.size
    exact ⟨x, h0, (ho.block _ h1.lt (.inl (by omega)) (fun h => by have := hLw.2.2 _ h; omega)).trans h1, (ho.block _ h2.lt (.inl (by omega)) (fun h => by have := hLw.2.2 _ h; omega)).trans h2, h3.trans ⟨ho.os, ho.tape, ho.output, ho.size, fun i hi => ho.block i (by omega) (.inl (by omega)) hi.2⟩⟩
  case h0 =>
    intro X V' hV' hX
    have z := hV'.size
    exact ⟨q6.below hV' (by omega), q7.below hV' (by omega), KeepK.of_below (hbW.trans (hV'.mono hbW.size)) fun i hi => hi.1⟩
  case hassign =>
    intro l' x V' gg K hg hK
    dsimp only [SV.val]
    gi_wp2
    rw [← hg]
    exact hK
  case hbody =>
    rintro l' X x gg V' hg1 hg2 hgo ⟨h1, h2, h3⟩ hG
    have hB : Blk V' gg 49 #[.string x.nm, .int .u16 x.t, .int .u32 x.l, .slice x.A x.n x.c] := hgo
    have c0 := hB.cell 0; have c1 := hB.cell 1; have c2 := hB.cell 2; have c3 := hB.cell 3
    have f0 := h1.frozen 0; have f1 := h1.frozen 1; have f2 := h1.frozen 2; have f3 := h1.frozen 3; have f4 := h2.frozen 0
    have r0 := h1.cell 0; have r1 := h1.cell 1; have r2 := h1.cell 2; have r3 := h1.cell 3; have r4 := h2.cell 0
    have hne : gg ≠ w.heap.size := by omega
    have hne2 : gg ≠ w.heap.size + 1 := by omega
    have HH := Lib.hid (And.intro h1 (And.intro h2 (And.intro h3 (And.intro hG (And.intro hsz0 hz2)))))
    clear h1 h2 h3 hG hgo hB hsz0 hz2 hb20 k1 k2 k3 hbB hbW q6 q7
    gi_wp2_with (fail)
    obtain ⟨h1, h2, h3, hG, hsz0, hz2⟩ := HH.out
    obtain ⟨e1, e2, e3⟩ := two_done h1 h2 (.string x.nm) (.int .u16 x.t) (.int .u32 x.l) (.slice x.A x.n x.c) (.int .i64 0)
    exact ⟨⟨e3.size, fun i hi h => e3.block i (by rcases h with h | h; omega; exact h.elim)⟩, x, hG, e1, e2, h3.trans (e3.mono fun i hi => by have := hi.1; omega)⟩
  case hdone =>
    rintro D X V' hD hh ⟨h1, h2, h3⟩ hK
    have f0 := h1.frozen 0; have f1 := h1.frozen 1; have f2 := h1.frozen 2; have f3 := h1.frozen 3; have f4 := h2.frozen 0
    have r0 := h1.cell 0; have r1 := h1.cell 1; have r2 := h1.cell 2; have r3 := h1.cell 3; have r4 := h2.cell 0
    have HH := Lib.hid (And.intro h1 (And.intro h2 (And.intro h3 (And.intro hh (And.intro hsz0 hz2)))))
    clear h1 h2 h3 hh hsz0 hz2 hb20 k1 k2 k3 hbB hbW q6 q7
    gi_wp2_with (fail)
    obtain ⟨h1, h2, h3, hh, hsz0, hz2⟩ := HH.out
    obtain ⟨e1, e2, e3⟩ := two_done h1 h2 (.string ⟨#[]⟩) (.int .u16 0) (.int .u32 0) (.slice none 0 0) (.int .i64 3)
    have hk9 := h3.trans (e3.mono fun i hi => by have := hi.1; omega)
    obtain ⟨W9, hW9⟩ : ∃ W9, ((((V'.setCell ⟨w.heap.size, 0, none⟩ (.string ⟨#[]⟩)).setCell ⟨w.heap.size, 1, none⟩ (.int .u16 0)).setCell ⟨w.heap.size, 2, none⟩ (.int .u32 0)).setCell ⟨w.heap.size, 3, none⟩ (.slice none 0 0)).setCell ⟨w.heap.size + 1, 0, none⟩ (.int .i64 3) = W9 := ⟨_, rfl⟩
    rw [hW9] at e1 e2 hk9 ⊢
    have hK9 : W9.heap[D]? = some (.deferred (some [])) := by rw [← hW9]; exact (e3.block D ⟨by omega, by omega⟩).trans hK
    have g1 : Blk (W9.putObj D (.deferred none)) w.heap.size 49 _ := (World.putObj_heap_other (by omega)).trans e1
    have g2 : Blk (W9.putObj D (.deferred none)) (w.heap.size + 1) 27 _ := (World.putObj_heap_other (by omega)).trans e2
    have d0 := g1.cell 0; have d1 := g1.cell 1; have d2 := g1.cell 2; have d3 := g1.cell 3; have d4 := g2.cell 0
    have hkk : KeepK (fun i => i < w.heap.size ∧ ¬ L i) w (W9.putObj D (.deferred none)) := hk9.trans ⟨rfl, rfl, rfl, by simp, fun i hi => World.putObj_heap_other (by have := hi.1; omega)⟩
    clear r0 r1 r2 r3 r4 f0 f1 f2 f3 f4
    refine ⟨by simp, .inl ⟨_, _, rfl, run_takeDeferred hK9, .tuple #[.agg #[.string ⟨#[]⟩, .int .u16 0, .int .u32 0, .slice none 0 0], .int .i64 3], by simp [results, Try.results23, go_sem, d0, d1, d2, d3, d4], ⟨⟨⟨#[]⟩, 0, 0, none, 0, 0⟩, 3, rfl, fun up y h => ?_⟩, hkk⟩⟩
    exact absurd (by rw [h]; rfl) hh
  case hstop =>
    rintro D X V' hD hh ⟨x, hG, h1, h2, h3⟩ hK
    have r0 := h1.cell 0; have r1 := h1.cell 1; have r2 := h1.cell 2; have r3 := h1.cell 3; have r4 := h2.cell 0
    have HH := Lib.hid (And.intro h1 (And.intro h2 (And.intro h3 (And.intro hG (And.intro hsz0 hz2)))))
    clear h1 h2 h3 hG hsz0 hz2 hb20 k1 k2 k3 hbB hbW q6 q7
    gi_wp2_with (fail)
    obtain ⟨h1, h2, h3, hG, hsz0, hz2⟩ := HH.out
    have g1 : Blk (V'.putObj D (.deferred none)) w.heap.size 49 _ := (World.putObj_heap_other (by omega)).trans h1
    have g2 : Blk (V'.putObj D (.deferred none)) (w.heap.size + 1) 27 _ := (World.putObj_heap_other (by omega)).trans h2
    have d0 := g1.cell 0; have d1 := g1.cell 1; have d2 := g1.cell 2; have d3 := g1.cell 3; have d4 := g2.cell 0
    have hkk : KeepK (fun i => i < w.heap.size ∧ ¬ L i) w (V'.putObj D (.deferred none)) := h3.trans ⟨rfl, rfl, rfl, by simp, fun i hi => World.putObj_heap_other (by have := hi.1; omega)⟩
    clear r0 r1 r2 r3 r4
    refine ⟨by simp, .inl ⟨_, _, rfl, run_takeDeferred hK, .tuple #[.agg #[.string x.nm, .int .u16 x.t, .int .u32 x.l, .slice x.A x.n x.c], .int .i64 0], by simp [results, Try.results23, go_sem, d0, d1, d2, d3, d4], ⟨x, 0, rfl, fun up y h => ?_⟩, hkk⟩⟩
    obtain ⟨up', y', h', hx⟩ := hG
    rw [h] at h'
    injection h' with h'
    injection h' with h1' _
    exact ⟨by rw [hx, h1'], rfl⟩
end Go.Proofs.Ytfipacfompihkaa
