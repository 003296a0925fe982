/- The walk of hardtacklaw20.ScrubTells. Conditions: none. -/
import Derived.Test.YthjkdpphbipgfaaLives20
import Derived.Test.YthjkdpphbipgfaaMsgSmall
namespace Go.Proofs.Ythjkdpphbipgfaa
open Go.RowKit Go.Shelf Go.Lib

theorem last12 {a0 a1 a2 a3 a4 a5 a6 a7 a8 a9 a10 a11 : Prop} (H : a0 ∧ a1 ∧ a2 ∧ a3 ∧ a4 ∧ a5 ∧ a6 ∧ a7 ∧ a8 ∧ a9 ∧ a10 ∧ a11) : a11 := H.2.2.2.2.2.2.2.2.2.2.2
theorem small_of_size {r : RRec} (hn : ¬ 1000 < r.n.size) (hd : ¬ 5000 < r.d.size) : r.small := ⟨by omega, by omega⟩

set_option maxRecDepth 100000 in
set_option maxHeartbeats 16000000 in
theorem scrubTells_law (w : World) (m : MRec) (z : ByteArray) (r : RRec) (hm : m.In w) (hmo : m.Ok) (hz : z.size ≤ maxLen) (hr : r.ok) :
    Calls Try.prog 3 #[m.val, .string z, r.val] w fun e w' => e = .returned (.bool true) ∧ Below w.heap.size w w' := by
  have HM := Lib.hid (And.intro hm (And.intro hmo hz))
  clear hm hmo hz hr
  have HSML := Lib.hid (fun W (hW : m.In W) => small6_any m W hW HM.out.2.1)
  obtain ⟨rn, rt, rc, rl, rd⟩ := r
  dsimp only [MRec.val, RRec.val] at HSML ⊢
  go_enter Try.func3, Try.ntmps3
  go_wp2_with (fail)
  obtain ⟨V, hV⟩ : ∃ V, (w.alloc (.cells #[.int .u16 m.id, .int .u16 m.bi, .slice m.qA m.q.length m.qc, .slice m.sA m.s.length m.sc, .slice m.hA m.h.length m.hc, .slice m.eA m.e.length m.ec] 26)).alloc (.cells #[.string rn, .int .u16 rt, .int .u16 rc, .int .u32 rl, .string rd] 30) = V := ⟨_, rfl⟩
  have HV := Lib.hid (show Below w.heap.size w V ∧ Blk V w.heap.size 26 #[.int .u16 m.id, .int .u16 m.bi, .slice m.qA m.q.length m.qc, .slice m.sA m.s.length m.sc, .slice m.hA m.h.length m.hc, .slice m.eA m.e.length m.ec] ∧ Blk V (w.heap.size + 1) 30 #[.string rn, .int .u16 rt, .int .u16 rc, .int .u32 rl, .string rd] from by
    rw [← hV]
    refine ⟨((Below.refl _ _).alloc (Nat.le_refl _) _).alloc (by simp) _, (Blk.new _ _ _).alloc _, ?_⟩
    have h1 := Blk.new (w.alloc (.cells #[.int .u16 m.id, .int .u16 m.bi, .slice m.qA m.q.length m.qc, .slice m.sA m.s.length m.sc, .slice m.hA m.h.length m.hc, .slice m.eA m.e.length m.ec] 26)) 30 #[.string rn, .int .u16 rt, .int .u16 rc, .int .u32 rl, .string rd]
    rw [World.size_alloc] at h1
    exact h1)
  rw [hV]
  clear hV
  refine (HSML.out _ (HM.out.1.below HV.out.1)).mono ?_
  rintro e w1 ⟨hsm, hb⟩
  have HB1 := Lib.hid (HV.out.1.trans (hb.mono HV.out.1.size))
  have HX1 := Lib.hid (And.intro (HV.out.2.1.below hb HV.out.2.1.lt) (HV.out.2.2.below hb HV.out.2.2.lt))
  clear hb HSML
  have u0 := HX1.out.2.cell 0
  have u4 := HX1.out.2.cell 4
  rcases hsm with rfl | ⟨rfl, hsm⟩
  · go_wp2_with (fail)
    refine (lives20_any _).mono ?_
    rintro e w2 ⟨rfl, hb⟩
    have HB2 := Lib.hid (HB1.out.trans (hb.mono HB1.out.size))
    clear hb
    go_wp2_with (fail)
    go_ret
    exact ⟨rfl, HB2.out⟩
  have HSM := Lib.hid hsm
  clear hsm
  by_cases hz : 1000 < z.size
  · have hzI : (1000 : Int) < (z.size : Int) := by omega
    clear hz
    go_wp2_with (fail)
    refine (lives20_any _).mono ?_
    rintro e w2 ⟨rfl, hb⟩
    have HB2 := Lib.hid (HB1.out.trans (hb.mono HB1.out.size))
    clear hb
    go_wp2_with (fail)
    go_ret
    exact ⟨rfl, HB2.out⟩
  have hzI : ¬ (1000 : Int) < (z.size : Int) := by omega
  clear hz
  by_cases hd : 5000 < rd.size
  · have hdI : (5000 : Int) < (rd.size : Int) := by omega
    clear hd
    go_wp2_with (fail)
    refine (lives20_any _).mono ?_
    rintro e w2 ⟨rfl, hb⟩
    have HB2 := Lib.hid (HB1.out.trans (hb.mono HB1.out.size))
    clear hb
    go_wp2_with (fail)
    go_ret
    exact ⟨rfl, HB2.out⟩
  have hdI : ¬ (5000 : Int) < (rd.size : Int) := by omega
  by_cases hn : 1000 < rn.size
  · have hnI : (1000 : Int) < (rn.size : Int) := by omega
    clear hd hn
    go_wp2_with (fail)
    refine (lives20_any _).mono ?_
    rintro e w2 ⟨rfl, hb⟩
    have HB2 := Lib.hid (HB1.out.trans (hb.mono HB1.out.size))
    clear hb
    go_wp2_with (fail)
    go_ret
    exact ⟨rfl, HB2.out⟩
  have hnI : ¬ (1000 : Int) < (rn.size : Int) := by omega
  have hrs : RRec.small ⟨rn, rt, rc, rl, rd⟩ := small_of_size hn hd
  clear hd hn
  go_wp2_with (fail)
  obtain ⟨V, rfl⟩ : ∃ V : World, V = w1 := ⟨_, rfl⟩
  clear u0 u4
  have hz2 := HM.out.2.2
  have hms := HSM.out
  have HIn := Lib.hid (fun W (hW : Below V.heap.size V W) => show m.In W from HM.out.1.below (HB1.out.trans (hW.mono HB1.out.size)))
  have HMS := Lib.hid (fun W (hW : Below V.heap.size V W) => scrubMsg_any m z hms hz2 W (HIn.out W hW))
  have HMR := Lib.hid (fun W (hW : Below V.heap.size V W) => rMsg_any m z hms hz2 W (HIn.out W hW))
  have HGS := Lib.hid (fun W (hW : Below V.heap.size V W) => glue_any m z hms hz2 W (HIn.out W hW))
  have HGR := Lib.hid (fun W (hW : Below V.heap.size V W) => rGlue_any m z hms hz2 W (HIn.out W hW))
  have HNS := Lib.hid (fun W (hW : Below V.heap.size V W) => scrubGone_any m z hms hz2 W (HIn.out W hW))
  have HNR := Lib.hid (fun W (hW : Below V.heap.size V W) => rGone_any m z hms hz2 W (HIn.out W hW))
  have HTS := Lib.hid (fun W => stays_any ⟨rn, rt, rc, rl, rd⟩ z (by have := hrs.1; unfold maxLen; omega) (by have := hrs.2; omega) hz2 W)
  have HTR := Lib.hid (fun W => rStays_any ⟨rn, rt, rc, rl, rd⟩ z (by have := hrs.1; unfold maxLen; omega) (by have := hrs.2; omega) hz2 W)
  have hl1 := left_len z.data.toList m.s
  have hl2 := left_len z.data.toList m.h
  have hl3 := glue_len z.data.toList m.s m.h m.e
  have hg0 : goneN z.data.toList m.s m.h m.e ≤ m.s.length + m.h.length + m.e.length := Nat.sub_le _ _
  obtain ⟨L1, hL1⟩ : ∃ L, leftL z.data.toList m.s = L := ⟨_, rfl⟩
  obtain ⟨L2, hL2⟩ : ∃ L, leftL z.data.toList m.h = L := ⟨_, rfl⟩
  obtain ⟨L3, hL3⟩ : ∃ L, glueL z.data.toList m.s m.h m.e = L := ⟨_, rfl⟩
  obtain ⟨G, hG⟩ : ∃ G, goneN z.data.toList m.s m.h m.e = G := ⟨_, rfl⟩
  obtain ⟨bs, hbs⟩ : ∃ b, staysB z.data.toList ⟨rn, rt, rc, rl, rd⟩ = b := ⟨_, rfl⟩
  rw [hL1, hL2, hL3] at HMS HMR
  rw [hL3] at HGS HGR
  rw [hG] at HNS HNR hg0
  rw [hbs] at HTS HTR
  rw [hL1] at hl1
  rw [hL2] at hl2
  rw [hL3] at hl3
  have hq20 := hms.lq
  have hs20 := hms.ls
  have hh20 := hms.lh
  have he20 := hms.le
  have HSAME := Lib.hid (fun (qA : Option Addr) (qc : Nat) (sA : Option Addr) (sc : Nat) (hA : Option Addr) (hc : Nat) (eA : Option Addr) (ec : Nat) (qB : Option Addr) (qd : Nat) (sB : Option Addr) (sd : Nat) (hB : Option Addr) (hd : Nat) (eB : Option Addr) (ed : Nat) W (h1 : MRec.In ⟨m.id, m.bi, qA, m.q, qc, sA, L1, sc, hA, L2, hc, eA, L3, ec⟩ W) (h2 : MRec.In ⟨m.id, m.bi, qB, m.q, qd, sB, L1, sd, hB, L2, hd, eB, L3, ed⟩ W) =>
    show Calls Try.prog 10 #[(.agg #[.int .u16 m.id, .int .u16 m.bi, .slice qA m.q.length qc, .slice sA L1.length sc, .slice hA L2.length hc, .slice eA L3.length ec]), (.agg #[.int .u16 m.id, .int .u16 m.bi, .slice qB m.q.length qd, .slice sB L1.length sd, .slice hB L2.length hd, .slice eB L3.length ed])] W (fun e w' => e = .returned (.bool true) ∧ Below W.heap.size W w') from same6_any ⟨m.id, m.bi, qA, m.q, qc, sA, L1, sc, hA, L2, hc, eA, L3, ec⟩ ⟨m.id, m.bi, qB, m.q, qd, sB, L1, sd, hB, L2, hd, eB, L3, ed⟩ rfl rfl rfl rfl rfl rfl W h1 h2 ⟨by show m.q.length ≤ _; omega, by show L1.length ≤ _; omega, by show L2.length ≤ _; omega, by show L3.length ≤ _; omega⟩)
  have HSL := Lib.hid (fun (A B : Option Addr) (c d : Nat) W (hA : RTab W A L3) (hB : RTab W B L3) => sameListR_any L3 A B c d W hA hB (by omega))
  have hGI : (G : Int) ≤ 60 := by omega
  clear hL1 hL2 hL3 hG hbs hq20 hs20 hh20 he20 hl1 hl2 hl3 hg0 hz2 hms hrs
  dsimp only [MRec.val, RRec.val] at HMS HMR HGS HGR HNS HNR HTS HTR
  have HKA : RowKit.Hid (∀ w', Below V.heap.size V w' → w'.cell? ⟨w.heap.size, 0, none⟩ = some (.int .u16 m.id) ∧ w'.cell? ⟨w.heap.size, 1, none⟩ = some (.int .u16 m.bi) ∧ w'.cell? ⟨w.heap.size, 2, none⟩ = some (.slice m.qA m.q.length m.qc) ∧ w'.cell? ⟨w.heap.size, 3, none⟩ = some (.slice m.sA m.s.length m.sc) ∧ w'.cell? ⟨w.heap.size, 4, none⟩ = some (.slice m.hA m.h.length m.hc) ∧ w'.cell? ⟨w.heap.size, 5, none⟩ = some (.slice m.eA m.e.length m.ec) ∧ w'.cell? ⟨w.heap.size + 1, 0, none⟩ = some (.string rn) ∧ w'.cell? ⟨w.heap.size + 1, 1, none⟩ = some (.int .u16 rt) ∧ w'.cell? ⟨w.heap.size + 1, 2, none⟩ = some (.int .u16 rc) ∧ w'.cell? ⟨w.heap.size + 1, 3, none⟩ = some (.int .u32 rl) ∧ w'.cell? ⟨w.heap.size + 1, 4, none⟩ = some (.string rd) ∧ Below V.heap.size V w') := Lib.hid (fun w' hb => by
    have k0 := HX1.out.1.below hb HX1.out.1.lt
    have k1 := HX1.out.2.below hb HX1.out.2.lt
    exact ⟨k0.cell 0, k0.cell 1, k0.cell 2, k0.cell 3, k0.cell 4, k0.cell 5, k1.cell 0, k1.cell 1, k1.cell 2, k1.cell 3, k1.cell 4, hb⟩)
  have R0 : Below V.heap.size V V := Below.refl _ _
  go_region_held3 (fun w' => w'.cell? ⟨w.heap.size, 0, none⟩ = some (.int .u16 m.id) ∧ w'.cell? ⟨w.heap.size, 1, none⟩ = some (.int .u16 m.bi) ∧ w'.cell? ⟨w.heap.size, 2, none⟩ = some (.slice m.qA m.q.length m.qc) ∧ w'.cell? ⟨w.heap.size, 3, none⟩ = some (.slice m.sA m.s.length m.sc) ∧ w'.cell? ⟨w.heap.size, 4, none⟩ = some (.slice m.hA m.h.length m.hc) ∧ w'.cell? ⟨w.heap.size, 5, none⟩ = some (.slice m.eA m.e.length m.ec) ∧ w'.cell? ⟨w.heap.size + 1, 0, none⟩ = some (.string rn) ∧ w'.cell? ⟨w.heap.size + 1, 1, none⟩ = some (.int .u16 rt) ∧ w'.cell? ⟨w.heap.size + 1, 2, none⟩ = some (.int .u16 rc) ∧ w'.cell? ⟨w.heap.size + 1, 3, none⟩ = some (.int .u32 rl) ∧ w'.cell? ⟨w.heap.size + 1, 4, none⟩ = some (.string rd) ∧ Below V.heap.size V w')
    (first | with_reducible assumption | with_reducible exact HKA.out _ R0 | with_reducible exact HKA.out _ R0.drew | with_reducible exact HKA.out _ (step_b2 (last12 (by assumption)) hb11) | with_reducible exact HKA.out _ (step_b2 (last12 (by assumption)) hb10) | with_reducible exact HKA.out _ (step_b2 (last12 (by assumption)) hb9) | with_reducible exact HKA.out _ (step_b2 (last12 (by assumption)) hb8) | with_reducible exact HKA.out _ (step_b2 (last12 (by assumption)) hb7) | with_reducible exact HKA.out _ (step_b2 (last12 (by assumption)) hb6) | with_reducible exact HKA.out _ (step_b2 (last12 (by assumption)) hb5) | with_reducible exact HKA.out _ (step_b2 (last12 (by assumption)) hb4) | with_reducible exact HKA.out _ (step_b2 (last12 (by assumption)) hb3) | with_reducible exact HKA.out _ (step_b2 (last12 (by assumption)) hb2) | with_reducible exact HKA.out _ (step_b2 (last12 (by assumption)) hb1))
    (first
      | (go_at_call 9; (with_reducible refine (lives20_any _).mono ?_); rintro e w1 ⟨rfl, hb1⟩)
      | (go_at_call 11; (with_reducible refine (HMS.out _ (last12 (by assumption))).mono ?_); rintro e w2 ⟨qA, qc, sA, sc, hA, hc, eA, ec, rfl, hIn2, hb2⟩; dsimp only [MRec.val])
      | (go_at_call 12; (with_reducible refine (HMR.out _ (last12 (by assumption))).mono ?_); rintro e w3 ⟨qB, qd, sB, sd, hB, hd, eB, ed, rfl, hIn3, hb3⟩; dsimp only [MRec.val])
      | (go_at_call 10; (with_reducible refine (HSAME.out qA qc sA sc hA hc eA ec qB qd sB sd hB hd eB ed _ (hIn2.below hb3) hIn3).mono ?_); rintro e w4 ⟨rfl, hb4⟩)
      | (go_at_call 14; (with_reducible refine (HGS.out _ (last12 (by assumption))).mono ?_); rintro e w5 ⟨A5, k5, rfl, hS5, ho5, hb5⟩)
      | (go_at_call 15; (with_reducible refine (HGR.out _ (last12 (by assumption))).mono ?_); rintro e w6 ⟨A6, k6, rfl, hS6, ho6, hb6⟩)
      | (go_at_call 13; (with_reducible refine (HSL.out A5 A6 k5 k6 _ (rtab_of_sl (hS5.below hb6 hS5.lt)) (rtab_of_sl hS6)).mono ?_); rintro e w7 ⟨rfl, hb7⟩)
      | (go_at_call 16; (with_reducible refine (HTS.out _).mono ?_); rintro e w8 ⟨rfl, hb8⟩)
      | (go_at_call 17; (with_reducible refine (HTR.out _).mono ?_); rintro e w9 ⟨rfl, hb9⟩)
      | (go_at_call 18; (with_reducible refine (HNS.out _ (last12 (by assumption))).mono ?_); rintro e wa ⟨rfl, hb10⟩)
      | (go_at_call 19; (with_reducible refine (HNR.out _ (last12 (by assumption))).mono ?_); rintro e wb ⟨rfl, hb11⟩))
  all_goals
    have hB : Below V.heap.size V _ := (last12 (by assumption))
    have HB3 := Lib.hid (HB1.out.trans (hB.mono HB1.out.size))
    clear hB
    go_wp2_with (fail)
    go_ret
    exact ⟨by simp, HB3.out⟩
end Go.Proofs.Ythjkdpphbipgfaa
