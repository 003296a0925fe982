/- The walks of hardtackref20.Msg, hardtackref20.Gone, scrub.Gone. Conditions: none. The walk of scrub.Gone. Conditions: none. -/
import Derived.Test.YthjkdpphbipgfaaScrubMsg
import Derived.Test.YthjkdpphbipgfaaRef20G
namespace Go.Proofs.Ythjkdpphbipgfaa
open Go.RowKit Go.Shelf Go.Lib

set_option maxRecDepth 100000 in
set_option maxHeartbeats 16000000 in
theorem rMsg_any (m : MRec) (z : ByteArray) (hs : m.Small) (hz : z.size ≤ maxLen) (w : World) (hm : m.In w) :
    Calls Try.prog 12 #[m.val, .string z] w (MsgPost m.id m.bi m.q (leftL z.data.toList m.s) (leftL z.data.toList m.h) (glueL z.data.toList m.s m.h m.e) w) := by
  have HM := Lib.hid (And.intro hm (And.intro hs hz))
  clear hm hs hz
  obtain ⟨L1, hL1⟩ : ∃ L, leftL z.data.toList m.s = L := ⟨_, rfl⟩
  obtain ⟨L2, hL2⟩ : ∃ L, leftL z.data.toList m.h = L := ⟨_, rfl⟩
  obtain ⟨L3, hL3⟩ : ∃ L, glueL z.data.toList m.s m.h m.e = L := ⟨_, rfl⟩
  have HG := Lib.hid (fun W (hW : m.In W) => rGlue_any m z HM.out.2.1 HM.out.2.2 W hW)
  have HS := Lib.hid (fun (W : World) (ht : m.In W) => left_any m.s m.sA m.sc z HM.out.2.2 W ht.ts HM.out.2.1.ss HM.out.2.1.ls)
  have HH := Lib.hid (fun (W : World) (ht : m.In W) => left_any m.h m.hA m.hc z HM.out.2.2 W ht.th HM.out.2.1.sh HM.out.2.1.lh)
  rw [hL1] at HS ⊢
  rw [hL2] at HH ⊢
  rw [hL3] at HG ⊢
  clear hL1 hL2 hL3
  dsimp only [MRec.val] at HG ⊢
  go_enter Try.func12, Try.ntmps12
  go_wp2_with (fail)
  obtain ⟨V, hV⟩ : ∃ V, (w.alloc (.cells #[.int .u16 m.id, .int .u16 m.bi, .slice m.qA m.q.length m.qc, .slice m.sA m.s.length m.sc, .slice m.hA m.h.length m.hc, .slice m.eA m.e.length m.ec] 26)).alloc (.cells #[.int .u16 0, .int .u16 0, .slice none 0 0, .slice none 0 0, .slice none 0 0, .slice none 0 0] 26) = V := ⟨_, rfl⟩
  have HV := Lib.hid (show Below w.heap.size w V ∧ Blk V w.heap.size 26 #[.int .u16 m.id, .int .u16 m.bi, .slice m.qA m.q.length m.qc, .slice m.sA m.s.length m.sc, .slice m.hA m.h.length m.hc, .slice m.eA m.e.length m.ec] ∧ Blk V (w.heap.size + 1) 26 #[.int .u16 0, .int .u16 0, .slice none 0 0, .slice none 0 0, .slice none 0 0, .slice none 0 0] from by
    rw [← hV]
    refine ⟨((Below.refl _ _).alloc (Nat.le_refl _) _).alloc (by simp) _, (Blk.new _ _ _).alloc _, ?_⟩
    have h1 := Blk.new (w.alloc (.cells #[.int .u16 m.id, .int .u16 m.bi, .slice m.qA m.q.length m.qc, .slice m.sA m.s.length m.sc, .slice m.hA m.h.length m.hc, .slice m.eA m.e.length m.ec] 26)) 26 #[.int .u16 0, .int .u16 0, .slice none 0 0, .slice none 0 0, .slice none 0 0, .slice none 0 0]
    rw [World.size_alloc] at h1
    exact h1)
  rw [hV]
  clear hV
  have HIn := Lib.hid (fun W (hW : Below V.heap.size V W) => show m.In W from (HM.out.1.below HV.out.1).below hW)
  refine (HG.out _ (HIn.out _ (Below.refl _ _))).mono ?_
  rintro e w1 ⟨A6, k6, rfl, hS6, ho6, hb6⟩
  have H6 := Lib.hid (And.intro hS6 (And.intro ho6 hb6))
  have B1 := hb6
  have x0 := (HV.out.2.1.below hb6 HV.out.2.1.lt)
  have y0 := (HV.out.2.2.below hb6 HV.out.2.2.lt)
  have HXY := Lib.hid (And.intro x0 y0)
  have c3 : w1.cell? ⟨w.heap.size, 3, none⟩ = some (.slice m.sA m.s.length m.sc) := x0.cell 3
  have c4 : w1.cell? ⟨w.heap.size, 4, none⟩ = some (.slice m.hA m.h.length m.hc) := x0.cell 4
  clear hS6 ho6 hb6 B1 x0 y0
  have HAL := Lib.hid (show ∀ W, Below w1.heap.size w1 W → W.cell? ⟨w.heap.size, 3, none⟩ = some (.slice m.sA m.s.length m.sc) ∧ W.cell? ⟨w.heap.size, 4, none⟩ = some (.slice m.hA m.h.length m.hc) ∧ W.cell? ⟨w.heap.size, 5, none⟩ = some (.slice m.eA m.e.length m.ec) ∧
      W.frozen? ⟨w.heap.size, 3, none⟩ = false ∧ W.frozen? ⟨w.heap.size, 4, none⟩ = false ∧ W.frozen? ⟨w.heap.size, 5, none⟩ = false ∧ m.In W from fun W hW => by
    have h := HXY.out.1.below hW HXY.out.1.lt
    exact ⟨h.cell 3, h.cell 4, h.cell 5, h.frozen 3, h.frozen 4, h.frozen 5, HIn.out _ (H6.out.2.2.trans (hW.mono H6.out.2.2.size))⟩)
  go_wp2_with (fail)
  go_region_with (first
    | (go_at_call 40; (with_reducible refine (HS.out _ (HAL.out _ (Below.refl w1.heap.size w1).drew).2.2.2.2.2.2).mono ?_); rintro e w2 ⟨A1, k1, rfl, hS1, ho1, hb1⟩; obtain ⟨d3, d4, d5, f3, f4, f5, hin2⟩ := HAL.out w2 ((Below.refl w1.heap.size w1).drew.trans hb1))
    | (go_at_call 40; (with_reducible refine (HH.out _ hin2).mono ?_); rintro e w3 ⟨A2, k2, rfl, hS2, ho2, hb2⟩; obtain ⟨p3, p4, p5, q3, q4, q5, hin3⟩ := HAL.out w3 (((Below.refl w1.heap.size w1).drew.trans hb1).trans (hb2.mono hb1.size))))
  all_goals
    have z0 : w.heap.size + 2 ≤ V.heap.size := by have := HV.out.2.2.lt; omega
    have b1 : Below w1.heap.size w1 w2 := (Below.refl w1.heap.size w1).drew.trans hb1
    have z1 := H6.out.2.2.size
    have z2 := b1.size
    have b13 := b1.trans (hb2.mono z2)
    obtain ⟨X, hX⟩ : ∃ X, ((w3.setCell ⟨w.heap.size, 3, none⟩ (.slice A1 L1.length k1)).setCell ⟨w.heap.size, 4, none⟩ (.slice A2 L2.length k2)).setCell ⟨w.heap.size, 5, none⟩ (.slice A6 L3.length k6) = X := ⟨_, rfl⟩
    have g1 : Blk X w.heap.size 26 #[.int .u16 m.id, .int .u16 m.bi, .slice m.qA m.q.length m.qc, .slice A1 L1.length k1, .slice A2 L2.length k2, .slice A6 L3.length k6] := by
      rw [← hX]
      have h := (((HXY.out.1.below b13 HXY.out.1.lt).set_ 3 (.slice A1 L1.length k1)).set_ 4 (.slice A2 L2.length k2)).set_ 5 (.slice A6 L3.length k6)
      simpa using h
    have g2 : Blk X (w.heap.size + 1) 26 #[.int .u16 0, .int .u16 0, .slice none 0 0, .slice none 0 0, .slice none 0 0, .slice none 0 0] := by
      rw [← hX]
      have n : ∀ o : Nat, w.heap.size + 1 ≠ (⟨w.heap.size, o, none⟩ : Addr).block := fun o => by show w.heap.size + 1 ≠ w.heap.size; omega
      exact (((HXY.out.2.below b13 HXY.out.2.lt).far (n 3) _).far (n 4) _).far (n 5) _
    have kX : KeepK (fun i => i ≠ w.heap.size) w3 X := by
      rw [← hX]
      exact (((KeepK.refl _ w3).setCell (p := ⟨w.heap.size, 3, none⟩) (fun i hi => hi) _).setCell (p := ⟨w.heap.size, 4, none⟩) (fun i hi => hi) _).setCell (p := ⟨w.heap.size, 5, none⟩) (fun i hi => hi) _
    have y1 : ∀ g, (Value.slice A1 L1.length k1).ownBlock = some g → w.heap.size + 2 ≤ g := fun g hg => by have h9 := ho1 g hg; have h8 : w1.heap.size ≤ g := h9; omega
    have y2 : ∀ g, (Value.slice A2 L2.length k2).ownBlock = some g → w.heap.size + 2 ≤ g := fun g hg => by have h9 := ho2 g hg; omega
    have y6 : ∀ g, (Value.slice A6 L3.length k6).ownBlock = some g → w.heap.size + 2 ≤ g := fun g hg => by have h9 := H6.out.2.1 g hg; omega
    have s1 := hS1.below hb2 hS1.lt
    have s6 := H6.out.1.below b13 H6.out.1.lt
    have hin3' := HIn.out _ (H6.out.2.2.trans (b13.mono z1))
    have HE := Lib.hid (And.intro (show Below w.heap.size w w3 from (HV.out.1.trans (H6.out.2.2.mono (by omega))).trans (b13.mono (by omega))) (And.intro kX (And.intro s1 (And.intro y1 (And.intro hS2 (And.intro y2 (And.intro s6 (And.intro y6 hin3'))))))))
    rw [hX]
    have HG2 := Lib.hid g2
    have e0 := g1.cell 0
    have e1 := g1.cell 1
    have e2 := g1.cell 2
    have e3 := g1.cell 3
    have e4 := g1.cell 4
    have e5 := g1.cell 5
    have r0 := g2.cell 0
    have r1 := g2.cell 1
    have r2 := g2.cell 2
    have r3 := g2.cell 3
    have r4 := g2.cell 4
    have r5 := g2.cell 5
    have h0 := g2.frozen 0
    have h1 := g2.frozen 1
    have h2 := g2.frozen 2
    have h3 := g2.frozen 3
    have h4 := g2.frozen 4
    have h5 := g2.frozen 5
    clear hX g1 g2 kX y1 y2 y6 s1 s6 z0 z1 z2 b1 b13 hb1 hb2 hS1 hS2 ho1 ho2 d3 d4 d5 f3 f4 f5 p3 p4 p5 q3 q4 q5 hin2 hin3 hin3' c3 c4
    go_wp2_with (fail)
    obtain ⟨F, hF⟩ : ∃ F, (((((X.setCell ⟨w.heap.size + 1, 0, none⟩ (.int .u16 m.id)).setCell ⟨w.heap.size + 1, 1, none⟩ (.int .u16 m.bi)).setCell ⟨w.heap.size + 1, 2, none⟩ (.slice m.qA m.q.length m.qc)).setCell ⟨w.heap.size + 1, 3, none⟩ (.slice A1 L1.length k1)).setCell ⟨w.heap.size + 1, 4, none⟩ (.slice A2 L2.length k2)).setCell ⟨w.heap.size + 1, 5, none⟩ (.slice A6 L3.length k6) = F := ⟨_, rfl⟩
    have hBF : Blk F (w.heap.size + 1) 26 #[.int .u16 m.id, .int .u16 m.bi, .slice m.qA m.q.length m.qc, .slice A1 L1.length k1, .slice A2 L2.length k2, .slice A6 L3.length k6] := by
      rw [← hF]
      have h := (((((HG2.out.set_ 0 (.int .u16 m.id)).set_ 1 (.int .u16 m.bi)).set_ 2 (.slice m.qA m.q.length m.qc)).set_ 3 (.slice A1 L1.length k1)).set_ 4 (.slice A2 L2.length k2)).set_ 5 (.slice A6 L3.length k6)
      simpa using h
    have hK6 : KeepK (fun i => i ≠ w.heap.size + 1) X F := by
      rw [← hF]
      have n : ∀ o i, (fun i => i ≠ w.heap.size + 1) i → i ≠ (⟨w.heap.size + 1, o, none⟩ : Addr).block := fun o i hi => hi
      exact ((((((KeepK.refl _ X).setCell (n 0) _).setCell (n 1) _).setCell (n 2) _).setCell (n 3) _).setCell (n 4) _).setCell (n 5) _
    rw [hF]
    clear hF
    obtain ⟨i1, i2, i3, i4, i5, i6, i7, i8, i9⟩ := HE.out
    have k3 : KeepK (fun i => i ≠ w.heap.size ∧ i ≠ w.heap.size + 1) w3 F := (i2.mono fun i hi => hi.1).trans (hK6.mono fun i hi => hi.2)
    have k4 : KeepK (fun i => i < w.heap.size) w F := (KeepK.of_below (K := fun i => i < w.heap.size) i1 (fun i hi => hi)).trans (k3.mono fun i hi => ⟨by omega, by omega⟩)
    have hend : MsgPost m.id m.bi m.q L1 L2 L3 w (.returned (.agg #[.int .u16 m.id, .int .u16 m.bi, .slice m.qA m.q.length m.qc, .slice A1 L1.length k1, .slice A2 L2.length k2, .slice A6 L3.length k6])) F :=
      ⟨m.qA, m.qc, A1, k1, A2, k2, A6, k6, rfl, ⟨HM.out.1.tq.below (k4.below fun i hi => hi), rtab_of_sl (i3.keepK k3 fun g hg => by have := i4 g hg; omega), rtab_of_sl (i5.keepK k3 fun g hg => by have := i6 g hg; omega), rtab_of_sl (i7.keepK k3 fun g hg => by have := i8 g hg; omega)⟩, k4.below fun i hi => hi⟩
    have t0 := hBF.cell 0
    have t1 := hBF.cell 1
    have t2 := hBF.cell 2
    have t3 := hBF.cell 3
    have t4 := hBF.cell 4
    have t5 := hBF.cell 5
    exact bodyPost_ret (v := .agg #[.int .u16 m.id, .int .u16 m.bi, .slice m.qA m.q.length m.qc, .slice A1 L1.length k1, .slice A2 L2.length k2, .slice A6 L3.length k6]) (by simp [results, Try.results12, go_sem, t0, t1, t2, t3, t4, t5]) rfl hend

theorem gone_int {a b c d : Nat} (h : d ≤ a + b + c) : ((a + b + c - d : Nat) : Int) = (a : Int) + b + c - d := by omega

set_option maxRecDepth 100000 in
set_option maxHeartbeats 4000000 in
theorem rGone_any (m : MRec) (z : ByteArray) (hs : m.Small) (hz : z.size ≤ maxLen) (w : World) (hm : m.In w) :
    Calls Try.prog 19 #[m.val, .string z] w fun e w' => e = .returned (.int .i64 (goneN z.data.toList m.s m.h m.e : Nat)) ∧ Below w.heap.size w w' := by
  have HM := Lib.hid (And.intro hm hs)
  have HG := Lib.hid (fun W (hW : m.In W) => rMsg_any m z hs hz W hW)
  have HQ := Lib.hid (show goneN z.data.toList m.s m.h m.e = m.s.length + m.h.length + m.e.length - ((leftL z.data.toList m.s).length + (leftL z.data.toList m.h).length + (glueL z.data.toList m.s m.h m.e).length) from rfl)
  have q1 := left_len z.data.toList m.s
  have q2 := left_len z.data.toList m.h
  have q3 := glue_len z.data.toList m.s m.h m.e
  clear hm hs hz
  obtain ⟨G, hG⟩ : ∃ G, goneN z.data.toList m.s m.h m.e = G := ⟨_, rfl⟩
  rw [hG] at HQ ⊢
  clear hG
  obtain ⟨L1, hL1⟩ : ∃ L, leftL z.data.toList m.s = L := ⟨_, rfl⟩
  obtain ⟨L2, hL2⟩ : ∃ L, leftL z.data.toList m.h = L := ⟨_, rfl⟩
  obtain ⟨L3, hL3⟩ : ∃ L, glueL z.data.toList m.s m.h m.e = L := ⟨_, rfl⟩
  rw [hL1, hL2, hL3] at HG HQ
  rw [hL1] at q1
  rw [hL2] at q2
  rw [hL3] at q3
  clear hL1 hL2 hL3
  dsimp only [MRec.val] at HG ⊢
  have b1 : m.s.length ≤ 20 := HM.out.2.ls
  have b2 : m.h.length ≤ 20 := HM.out.2.lh
  have b3 : m.e.length ≤ 20 := HM.out.2.le
  go_enter Try.func19, Try.ntmps19
  go_wp2_with (fail)
  obtain ⟨V, hV⟩ : ∃ V, w.alloc (.cells #[.int .u16 m.id, .int .u16 m.bi, .slice m.qA m.q.length m.qc, .slice m.sA m.s.length m.sc, .slice m.hA m.h.length m.hc, .slice m.eA m.e.length m.ec] 26) = V := ⟨_, rfl⟩
  have HV := Lib.hid (show Below w.heap.size w V ∧ Blk V w.heap.size 26 #[.int .u16 m.id, .int .u16 m.bi, .slice m.qA m.q.length m.qc, .slice m.sA m.s.length m.sc, .slice m.hA m.h.length m.hc, .slice m.eA m.e.length m.ec] from by
    rw [← hV]; exact ⟨(Below.refl _ _).alloc (Nat.le_refl _) _, Blk.new _ _ _⟩)
  rw [hV]
  clear hV
  refine (HG.out _ (HM.out.1.below HV.out.1)).mono ?_
  rintro e w2 ⟨qA, qc, sA, sc, hA, hc, eA, ec, rfl, hIn, hb⟩
  dsimp only [MRec.val]
  have hx := HV.out.2.below hb HV.out.2.lt
  have c3 := hx.cell 3
  have c4 := hx.cell 4
  have c5 := hx.cell 5
  have hlt := hx.lt
  have HB := Lib.hid (HV.out.1.trans (hb.mono HV.out.1.size))
  clear hIn hb hx
  go_wp2_with (fail)
  go_ret
  refine ⟨ret_i ?_, HB.out.alloc HB.out.size _⟩
  have := HQ.out
  omega
end Go.Proofs.Ythjkdpphbipgfaa

namespace Go.Proofs.Ythjkdpphbipgfaa
open Go.RowKit Go.Shelf Go.Lib

theorem step_b2 {V X Y : World} (h : Below V.heap.size V X) (k : Below X.heap.size X Y) : Below V.heap.size V Y := h.trans (k.mono h.size)

set_option maxRecDepth 100000 in
set_option maxHeartbeats 8000000 in
theorem scrubGone_any (m : MRec) (z : ByteArray) (hs : m.Small) (hz : z.size ≤ maxLen) (w : World) (hm : m.In w) :
    Calls Try.prog 18 #[m.val, .string z] w fun e w' => e = .returned (.int .i64 (goneN z.data.toList m.s m.h m.e : Nat)) ∧ Below w.heap.size w w' := by
  have HM := Lib.hid (And.intro hm hs)
  have HG := Lib.hid (fun W (hW : m.In W) => scrubMsg_any m z hs hz W hW)
  have HQ := Lib.hid (show goneN z.data.toList m.s m.h m.e = m.s.length + m.h.length + m.e.length - ((leftL z.data.toList m.s).length + (leftL z.data.toList m.h).length + (glueL z.data.toList m.s m.h m.e).length) from rfl)
  have q1 := left_len z.data.toList m.s
  have q2 := left_len z.data.toList m.h
  have q3 := glue_len z.data.toList m.s m.h m.e
  clear hm hs hz
  obtain ⟨G, hG⟩ : ∃ G, goneN z.data.toList m.s m.h m.e = G := ⟨_, rfl⟩
  rw [hG] at HQ ⊢
  clear hG
  obtain ⟨L1, hL1⟩ : ∃ L, leftL z.data.toList m.s = L := ⟨_, rfl⟩
  obtain ⟨L2, hL2⟩ : ∃ L, leftL z.data.toList m.h = L := ⟨_, rfl⟩
  obtain ⟨L3, hL3⟩ : ∃ L, glueL z.data.toList m.s m.h m.e = L := ⟨_, rfl⟩
  rw [hL1, hL2, hL3] at HG HQ
  rw [hL1] at q1
  rw [hL2] at q2
  rw [hL3] at q3
  clear hL1 hL2 hL3
  have b1 : m.s.length ≤ 20 := HM.out.2.ls
  have b2 : m.h.length ≤ 20 := HM.out.2.lh
  have b3 : m.e.length ≤ 20 := HM.out.2.le
  have HN1 := Lib.hid (fun W => many_any m W ⟨by omega, by omega, by omega⟩)
  have HN2 := Lib.hid (fun (qA : Option Addr) (qc : Nat) (sA : Option Addr) (sc : Nat) (hA : Option Addr) (hc : Nat) (eA : Option Addr) (ec : Nat) W => many_any ⟨m.id, m.bi, qA, m.q, qc, sA, L1, sc, hA, L2, hc, eA, L3, ec⟩ W ⟨by show L1.length ≤ _; omega, by show L2.length ≤ _; omega, by show L3.length ≤ _; omega⟩)
  dsimp only [MRec.val] at HG HN1 HN2 ⊢
  obtain ⟨NA, hNA⟩ : ∃ NA, m.s.length + m.h.length + m.e.length = NA := ⟨_, rfl⟩
  obtain ⟨NB, hNB⟩ : ∃ NB, L1.length + L2.length + L3.length = NB := ⟨_, rfl⟩
  rw [hNA] at HN1 HQ
  rw [hNB] at HN2 HQ
  have hle : NB ≤ NA := by omega
  have hNA2 : NA ≤ 60 := by omega
  have h1I : (NA : Int) ≤ 60 := by omega
  have h2I : (NB : Int) ≤ 60 := by omega
  have HNAB := Lib.hid (And.intro hle hNA2)
  clear hNA hNB q1 q2 q3 b1 b2 b3 hle hNA2
  go_enter Try.func18, Try.ntmps18
  go_wp2_with (fail)
  obtain ⟨V, hV⟩ : ∃ V, w.alloc (.cells #[.int .u16 m.id, .int .u16 m.bi, .slice m.qA m.q.length m.qc, .slice m.sA m.s.length m.sc, .slice m.hA m.h.length m.hc, .slice m.eA m.e.length m.ec] 26) = V := ⟨_, rfl⟩
  have HV := Lib.hid (show Below w.heap.size w V ∧ Blk V w.heap.size 26 #[.int .u16 m.id, .int .u16 m.bi, .slice m.qA m.q.length m.qc, .slice m.sA m.s.length m.sc, .slice m.hA m.h.length m.hc, .slice m.eA m.e.length m.ec] from by
    rw [← hV]; exact ⟨(Below.refl _ _).alloc (Nat.le_refl _) _, Blk.new _ _ _⟩)
  rw [hV]
  clear hV
  have HIn := Lib.hid (fun W (hW : Below V.heap.size V W) => show m.In W from (HM.out.1.below HV.out.1).below hW)
  have HKA : RowKit.Hid (∀ w', Below V.heap.size V w' → w'.cell? ⟨w.heap.size, 0, none⟩ = some (.int .u16 m.id) ∧ w'.cell? ⟨w.heap.size, 1, none⟩ = some (.int .u16 m.bi) ∧ w'.cell? ⟨w.heap.size, 2, none⟩ = some (.slice m.qA m.q.length m.qc) ∧ w'.cell? ⟨w.heap.size, 3, none⟩ = some (.slice m.sA m.s.length m.sc) ∧ w'.cell? ⟨w.heap.size, 4, none⟩ = some (.slice m.hA m.h.length m.hc) ∧ w'.cell? ⟨w.heap.size, 5, none⟩ = some (.slice m.eA m.e.length m.ec) ∧ Below V.heap.size V w') := Lib.hid (fun w' hb => by
    have c0 := HV.out.2.below hb HV.out.2.lt
    exact ⟨c0.cell 0, c0.cell 1, c0.cell 2, c0.cell 3, c0.cell 4, c0.cell 5, hb⟩)
  have R0 : Below V.heap.size V V := Below.refl _ _
  go_region_held3 (fun w' => w'.cell? ⟨w.heap.size, 0, none⟩ = some (.int .u16 m.id) ∧ w'.cell? ⟨w.heap.size, 1, none⟩ = some (.int .u16 m.bi) ∧ w'.cell? ⟨w.heap.size, 2, none⟩ = some (.slice m.qA m.q.length m.qc) ∧ w'.cell? ⟨w.heap.size, 3, none⟩ = some (.slice m.sA m.s.length m.sc) ∧ w'.cell? ⟨w.heap.size, 4, none⟩ = some (.slice m.hA m.h.length m.hc) ∧ w'.cell? ⟨w.heap.size, 5, none⟩ = some (.slice m.eA m.e.length m.ec) ∧ Below V.heap.size V w')
    (first | with_reducible assumption | with_reducible exact HKA.out _ R0 | with_reducible exact HKA.out _ R0.drew | exact HKA.out _ (step_b2 (last7 (by assumption)) hb3) | exact HKA.out _ (step_b2 (last7 (by assumption)) hb2) | exact HKA.out _ (step_b2 (last7 (by assumption)) hb1))
    (first
      | (go_at_call 48; (with_reducible refine (HN1.out _).mono ?_); rintro e w1 ⟨rfl, hb1⟩)
      | (go_at_call 11; (with_reducible refine (HG.out _ (HIn.out _ (last7 (by assumption)))).mono ?_); rintro e w2 ⟨qA, qc, sA, sc, hA, hc, eA, ec, rfl, hIn, hb2⟩; dsimp only [MRec.val])
      | (go_at_call 48; (with_reducible refine (HN2.out _ _ _ _ _ _ _ _ _).mono ?_); rintro e w3 ⟨rfl, hb3⟩))
  all_goals
    have hB : Below V.heap.size V _ := last7 (by assumption)
    have hB2 := HV.out.1.trans (hB.mono HV.out.1.size)
    have HB2 := Lib.hid hB2
    clear hB hB2
    go_wp2_with (fail)
    go_ret
    refine ⟨ret_i ?_, HB2.out⟩
    have h1 := HQ.out
    have h2 := HNAB.out
    first | omega | (rw [IntKind.wrap_i64]; omega)
end Go.Proofs.Ythjkdpphbipgfaa
