/- The walks of scrub.Msg, scrub.Gone. Conditions: none. -/
import Derived.Test.YthjkdpphbipgfaaGlue
import Derived.Test.YthjkdpphbipgfaaMsgSame
import Derived.Deep.RegionHeld3
import Derived.Deep.DrawnRows
namespace Go.Proofs.Ythjkdpphbipgfaa
open Go.RowKit Go.Shelf Go.Lib
attribute [local go_sem ↓] Go.wp_at_zero Go.wp_at_succ

theorem SeqK.later {α : Type} {P : Program} {g : Nat} {lb : Array Value} {encs : α → Array Value} {K : Nat → Prop} {L : List α} {w w' : World} (h : SeqK P g lb encs K L w) (hb : Below w.heap.size w w') : SeqK P g lb encs K L w' :=
  fun n l J Jx W hW => h n l J Jx W (hb.trans (hW.mono hb.size))
/-- What staying makes of one list. -/
def StayPost (L : List RRec) (w : World) (e : Ending) (w' : World) : Prop :=
  ∃ lb, e = .returned (.func (.func 74) #[] lb) ∧ Below w.heap.size w w' ∧ SeqK Try.prog 74 lb (fun r : RRec => #[r.val]) (fun i => i < w'.heap.size) L w'
theorem staying_seq (z : ByteArray) (l : LRec) (Bo : Nat) (W : World) (hz : z.size ≤ maxLen) (hc : W.cell? ⟨Bo, 0, none⟩ = some (.slice l.A l.xs.length l.c)) (ht : RTab W l.A l.xs) (hok : l.xs.length ≤ 20 ∧ ∀ e ∈ l.xs, e.small) :
    Calls Try.prog 39 #[.string z, .slice (some ⟨Bo, 0, none⟩) 1 1] W (StayPost (leftL z.data.toList l.xs) W) := by
  refine (staying_any z (some ⟨Bo, 0, none⟩) 1 1 W).mono ?_
  rintro e w' ⟨rfl, rfl⟩
  have hlo : Bo < W.heap.size := cell_lt hc
  have hb : Below W.heap.size W ((W.alloc (.cells #[.string z] 9)).alloc (.cells #[.slice (some ⟨Bo, 0, none⟩) 1 1] 55)) := ((Below.refl _ _).alloc (Nat.le_refl _) _).alloc (by simp) _
  refine ⟨_, rfl, hb, ?_⟩
  have h1 := Blk.new (W.alloc (.cells #[.string z] 9)) 55 #[.slice (some ⟨Bo, 0, none⟩) 1 1]
  rw [World.size_alloc] at h1
  have hs := staying1_K z W.heap.size (W.heap.size + 1) Bo 1 [l] (fun i => i < ((W.alloc (.cells #[.string z] 9)).alloc (.cells #[.slice (some ⟨Bo, 0, none⟩) 1 1] 55)).heap.size) _
    ⟨(Blk.new W _ _).alloc _, h1, fun j l' hj => by
        match j, hj with
        | 0, hj =>
          injection hj with hj
          subst hj
          exact (hb.cell (p := ⟨Bo, 0, none⟩) hlo).trans hc
        | j + 1, hj => simp at hj, by simp; omega,
      fun l' hl => by
        rw [List.mem_singleton.1 hl]
        exact ⟨ht.below hb, fun hp a ha => by have := ht.low hp a ha; simp; omega⟩,
      fun l' hl => by
        rw [List.mem_singleton.1 hl]
        exact ⟨by have := hok.1; omega, fun e he => by have := hok.2 e he; exact ⟨by have := this.1; unfold maxLen; omega, by have := this.2; omega⟩⟩,
      by simp; omega, by simp, by simp; omega, ⟨by simp, by simp⟩, hz⟩
  have hf : flatX [l] = l.xs := by simp [flatX]
  rw [hf] at hs
  exact hs
/-- A message that a call gives back. -/
def MsgPost (id bi : Int) (q : List QRec) (s h e : List RRec) (w : World) (en : Ending) (w' : World) : Prop :=
  ∃ (qA : Option Addr) (qc : Nat) (sA : Option Addr) (sc : Nat) (hA : Option Addr) (hc : Nat) (eA : Option Addr) (ec : Nat), en = .returned (MRec.val ⟨id, bi, qA, q, qc, sA, s, sc, hA, h, hc, eA, e, ec⟩) ∧
    MRec.In ⟨id, bi, qA, q, qc, sA, s, sc, hA, h, hc, eA, e, ec⟩ w' ∧ Below w.heap.size w w'
/-- What was there is as it was, but for a message at g. -/
def Rest (V : World) (g : Nat) (W : World) : Prop := KeepK (fun i => i < V.heap.size ∧ i ≠ g) V W ∧ ∃ u0 u1 u2 u3 u4 u5, Blk W g 26 #[u0, u1, u2, u3, u4, u5]
theorem Rest.drew {V W : World} {g : Nat} (h : Rest V g W) : Rest V g W.drew := ⟨h.1.drew, h.2⟩
theorem Rest.step {V X Y : World} {g : Nat} (h : Rest V g X) (k : Below X.heap.size X Y) : Rest V g Y := by
  obtain ⟨u0, u1, u2, u3, u4, u5, hb⟩ := h.2
  exact ⟨h.1.trans (KeepK.of_below k fun i hi => by have := h.1.size; omega), u0, u1, u2, u3, u4, u5, hb.below k hb.lt⟩
theorem Rest.set_ {V X : World} {g : Nat} (h : Rest V g X) (i : Nat) (u : Value) : Rest V g (X.setCell ⟨g, i, none⟩ u) := by
  obtain ⟨u0, u1, u2, u3, u4, u5, hb⟩ := h.2
  refine ⟨h.1.setCell (p := ⟨g, i, none⟩) (fun k hk => hk.2) u, ?_⟩
  have h2 := hb.set_ i u
  match i with
  | 0 => exact ⟨u, u1, u2, u3, u4, u5, h2⟩
  | 1 => exact ⟨u0, u, u2, u3, u4, u5, h2⟩
  | 2 => exact ⟨u0, u1, u, u3, u4, u5, h2⟩
  | 3 => exact ⟨u0, u1, u2, u, u4, u5, h2⟩
  | 4 => exact ⟨u0, u1, u2, u3, u, u5, h2⟩
  | 5 => exact ⟨u0, u1, u2, u3, u4, u, h2⟩
  | i + 6 => exact ⟨u0, u1, u2, u3, u4, u5, by simpa using h2⟩
theorem last7 {a b c d e f g : Prop} (H : a ∧ b ∧ c ∧ d ∧ e ∧ f ∧ g) : g := H.2.2.2.2.2.2
theorem cell_later {W w1 : World} {b : Nat} {v : Value} (hb : Below W.heap.size W w1) (h : W.cell? ⟨b, 0, none⟩ = some v) : w1.cell? ⟨b, 0, none⟩ = some v := (hb.cell (p := ⟨b, 0, none⟩) (cell_lt h)).trans h
theorem cell_new1 (W : World) (v : Value) (t : TypeId) : (W.alloc (.cells #[v] t)).cell? ⟨W.heap.size, 0, none⟩ = some v := by rw [World.cell?_alloc_new]; rfl
theorem cell_new3 (W : World) (o : Obj) (v : Value) (t : TypeId) : ((W.alloc o).alloc (.cells #[v] t)).cell? ⟨W.heap.size + 1, 0, none⟩ = some v := by
  have := cell_new1 (W.alloc o) v t
  rw [World.size_alloc] at this
  exact this
theorem cell_alloc {W : World} {o : Obj} {b : Nat} {v : Value} (h : W.cell? ⟨b, 0, none⟩ = some v) : (W.alloc o).cell? ⟨b, 0, none⟩ = some v := cell_later ((Below.refl _ _).alloc (Nat.le_refl _) _) h
theorem up1 {X Y : World} {o : Obj} (h : Below (X.alloc o).heap.size (X.alloc o) Y) : Below X.heap.size X Y := ((Below.refl _ _).alloc (Nat.le_refl _) o).trans (h.mono (by simp))
theorem msg_end {w w6 F : World} {id bi : Int} {q : List QRec} {s h e : List RRec} {A1 A3 A5 A6 : Option Addr} {k1 k3 k5 k6 : Nat} (hb : KeepK (fun i => i < w.heap.size) w F) (hk : KeepK (fun i => w.heap.size + 2 ≤ i) w6 F)
    (h1 : Sl w6 3 (.slice A1 q.length k1) q.length (flatV QRec.vs q)) (o1 : ∀ g, (Value.slice A1 q.length k1).ownBlock = some g → w.heap.size + 2 ≤ g)
    (h3 : Sl w6 5 (.slice A3 s.length k3) s.length (flatV RRec.vs s)) (o3 : ∀ g, (Value.slice A3 s.length k3).ownBlock = some g → w.heap.size + 2 ≤ g)
    (h5 : Sl w6 5 (.slice A5 h.length k5) h.length (flatV RRec.vs h)) (o5 : ∀ g, (Value.slice A5 h.length k5).ownBlock = some g → w.heap.size + 2 ≤ g)
    (h6 : Sl w6 5 (.slice A6 e.length k6) e.length (flatV RRec.vs e)) (o6 : ∀ g, (Value.slice A6 e.length k6).ownBlock = some g → w.heap.size + 2 ≤ g) :
    MsgPost id bi q s h e w (.returned (.agg #[.int .u16 id, .int .u16 bi, .slice A1 q.length k1, .slice A3 s.length k3, .slice A5 h.length k5, .slice A6 e.length k6])) F :=
  ⟨A1, k1, A3, k3, A5, k5, A6, k6, rfl, ⟨GTab.of_sl QRec.three (h1.keepK hk o1), rtab_of_sl (h3.keepK hk o3), rtab_of_sl (h5.keepK hk o5), rtab_of_sl (h6.keepK hk o6)⟩, hb.below fun i hi => hi⟩
theorem below_alloc1 (W : World) (o : Obj) : Below W.heap.size W (W.alloc o) := (Below.refl _ _).alloc (Nat.le_refl _) _

set_option maxRecDepth 100000 in
set_option maxHeartbeats 16000000 in
theorem scrubMsg_any (m : MRec) (z : ByteArray) (hs : m.Small) (hz : z.size ≤ maxLen) (w : World) (hm : m.In w) :
    Calls Try.prog 11 #[m.val, .string z] w (MsgPost m.id m.bi m.q (leftL z.data.toList m.s) (leftL z.data.toList m.h) (glueL z.data.toList m.s m.h m.e) w) := by
  have HM := Lib.hid (And.intro hm (And.intro hs hz))
  clear hm hs hz
  obtain ⟨L1, hL1⟩ : ∃ L, leftL z.data.toList m.s = L := ⟨_, rfl⟩
  obtain ⟨L2, hL2⟩ : ∃ L, leftL z.data.toList m.h = L := ⟨_, rfl⟩
  obtain ⟨L3, hL3⟩ : ∃ L, glueL z.data.toList m.s m.h m.e = L := ⟨_, rfl⟩
  have HLL := Lib.hid (show L1.length ≤ 1000000 ∧ L2.length ≤ 1000000 from by
    rw [← hL1, ← hL2]
    exact ⟨by have := left_len z.data.toList m.s; have := HM.out.2.1.ls; omega, by have := left_len z.data.toList m.h; have := HM.out.2.1.lh; omega⟩)
  have HG := Lib.hid (fun W (hW : m.In W) => glue_any m z HM.out.2.1 HM.out.2.2 W hW)
  have HS := Lib.hid (fun (Bo : Nat) (W : World) (hc : W.cell? ⟨Bo, 0, none⟩ = some (.slice m.sA m.s.length m.sc)) (ht : m.In W) => staying_seq z ⟨m.sA, m.s, m.sc⟩ Bo W HM.out.2.2 hc ht.ts ⟨HM.out.2.1.ls, HM.out.2.1.ss⟩)
  have HH := Lib.hid (fun (Bo : Nat) (W : World) (hc : W.cell? ⟨Bo, 0, none⟩ = some (.slice m.hA m.h.length m.hc)) (ht : m.In W) => staying_seq z ⟨m.hA, m.h, m.hc⟩ Bo W HM.out.2.2 hc ht.th ⟨HM.out.2.1.lh, HM.out.2.1.sh⟩)
  dsimp only at HS HH
  rw [hL1] at HS ⊢
  rw [hL2] at HH ⊢
  rw [hL3] at HG ⊢
  clear hL1 hL2 hL3
  dsimp only [MRec.val] at HG ⊢
  go_enter Try.func11, Try.ntmps11
  go_wp2_with (fail)
  obtain ⟨V, hV⟩ : ∃ V, (w.alloc (.cells #[.int .u16 m.id, .int .u16 m.bi, .slice m.qA m.q.length m.qc, .slice m.sA m.s.length m.sc, .slice m.hA m.h.length m.hc, .slice m.eA m.e.length m.ec] 26)).alloc (.cells #[.int .u16 0, .int .u16 0, .slice none 0 0, .slice none 0 0, .slice none 0 0, .slice none 0 0] 26) = V := ⟨_, rfl⟩
  have HV := Lib.hid (show Below w.heap.size w V ∧ Blk V w.heap.size 26 #[.int .u16 m.id, .int .u16 m.bi, .slice m.qA m.q.length m.qc, .slice m.sA m.s.length m.sc, .slice m.hA m.h.length m.hc, .slice m.eA m.e.length m.ec] ∧ Blk V (w.heap.size + 1) 26 #[.int .u16 0, .int .u16 0, .slice none 0 0, .slice none 0 0, .slice none 0 0, .slice none 0 0] from by
    rw [← hV]
    refine ⟨((Below.refl _ _).alloc (Nat.le_refl _) _).alloc (by simp) _, (Blk.new _ _ _).alloc _, ?_⟩
    have h1 := Blk.new (w.alloc (.cells #[.int .u16 m.id, .int .u16 m.bi, .slice m.qA m.q.length m.qc, .slice m.sA m.s.length m.sc, .slice m.hA m.h.length m.hc, .slice m.eA m.e.length m.ec] 26)) 26 #[.int .u16 0, .int .u16 0, .slice none 0 0, .slice none 0 0, .slice none 0 0, .slice none 0 0]
    rw [World.size_alloc] at h1
    exact h1)
  rw [hV]
  clear hV
  have R0 : Rest V (w.heap.size + 1) V := ⟨KeepK.refl _ _, _, _, _, _, _, _, HV.out.2.2⟩
  have HIn := Lib.hid (fun W (hW : Rest V (w.heap.size + 1) W) => show m.In W from HM.out.1.below (HV.out.1.trans (hW.1.below fun i hi => ⟨Nat.lt_of_lt_of_le hi HV.out.1.size, by omega⟩)))
  have HC := Lib.hid (fun W (hW : Rest V (w.heap.size + 1) W) => cloneQ_any m.q m.qA m.qc W (HIn.out W hW).tq (by have := HM.out.2.1.lq; omega))
  have HKA : RowKit.Hid (∀ w', Rest V (w.heap.size + 1) w' → w'.cell? ⟨w.heap.size, 0, none⟩ = some (.int .u16 m.id) ∧ w'.cell? ⟨w.heap.size, 1, none⟩ = some (.int .u16 m.bi) ∧ w'.cell? ⟨w.heap.size, 2, none⟩ = some (.slice m.qA m.q.length m.qc) ∧ w'.cell? ⟨w.heap.size, 3, none⟩ = some (.slice m.sA m.s.length m.sc) ∧ w'.cell? ⟨w.heap.size, 4, none⟩ = some (.slice m.hA m.h.length m.hc) ∧ w'.cell? ⟨w.heap.size, 5, none⟩ = some (.slice m.eA m.e.length m.ec) ∧ Rest V (w.heap.size + 1) w') := Lib.hid (fun w' hb => by
    have c0 := HV.out.2.1.keepK hb.1 ⟨HV.out.2.1.lt, by omega⟩
    exact ⟨c0.cell 0, c0.cell 1, c0.cell 2, c0.cell 3, c0.cell 4, c0.cell 5, hb⟩)
  have hE : RowKit.Hid (∀ (args : Array Value) (w : World), (callFunc 74 args).run Try.prog w = .ok (.enter 74 args) w) := Lib.hid (enters_of Try.func74 (by kernel_rfl) rfl)
  go_region_held3 (fun w' => w'.cell? ⟨w.heap.size, 0, none⟩ = some (.int .u16 m.id) ∧ w'.cell? ⟨w.heap.size, 1, none⟩ = some (.int .u16 m.bi) ∧ w'.cell? ⟨w.heap.size, 2, none⟩ = some (.slice m.qA m.q.length m.qc) ∧ w'.cell? ⟨w.heap.size, 3, none⟩ = some (.slice m.sA m.s.length m.sc) ∧ w'.cell? ⟨w.heap.size, 4, none⟩ = some (.slice m.hA m.h.length m.hc) ∧ w'.cell? ⟨w.heap.size, 5, none⟩ = some (.slice m.eA m.e.length m.ec) ∧ Rest V (w.heap.size + 1) w')
    (first | with_reducible assumption | with_reducible exact HKA.out _ R0 | with_reducible exact HKA.out _ R0.drew | with_reducible exact HF6.out _ _ _ _ _ _ | with_reducible exact HKA.out _ (Rest.step (last7 (by assumption)) (below_alloc1 _ _)) | with_reducible exact HKA.out _ (Rest.step (last7 (by assumption)) hb1) | with_reducible exact HKA.out _ (Rest.step (last7 (by assumption)) hb2) | with_reducible exact HKA.out _ (Rest.step (last7 (by assumption)) hb3) | with_reducible exact HKA.out _ (Rest.step (last7 (by assumption)) hb4) | with_reducible exact HKA.out _ (Rest.step (last7 (by assumption)) hb5))
    (first
      | (go_at_call 37; (with_reducible refine (HC.out _ (last7 (by assumption))).mono ?_); rintro e w1 ⟨A1, k1, rfl, hQ1, ho1, hb1⟩)
      | (go_at_call 39; (with_reducible refine (HS.out _ _ ?_ (HIn.out _ (last7 (by assumption)))).mono ?_); (repeat (first | exact cell_new1 _ _ _ | exact cell_new3 _ _ _ _ | refine cell_alloc ?_ | refine cell_later hb1 ?_)); rintro e w2 ⟨lb2, rfl, hb2, hsq2⟩)
      | (go_at_call 38; (with_reducible refine (collectR_any L1 _ (hsq2.later ?_) ?_ hE.out HLL.out.1).mono ?_); (first | exact Below.refl _ _ | exact below_alloc1 _ _); (intro i hi; first | exact hi | (simp; omega)); rintro e w3 ⟨A3, k3, rfl, hS3, ho3, hb3⟩)
      | (go_at_call 39; (with_reducible refine (HH.out _ _ ?_ (HIn.out _ (last7 (by assumption)))).mono ?_); (repeat (first | exact cell_new1 _ _ _ | exact cell_new3 _ _ _ _ | refine cell_alloc ?_ | refine cell_later hb3 ?_ | refine cell_later hb2 ?_ | refine cell_later hb1 ?_)); rintro e w4 ⟨lb4, rfl, hb4, hsq4⟩)
      | (go_at_call 38; (with_reducible refine (collectR_any L2 _ hsq4 (fun i hi => hi) hE.out HLL.out.2).mono ?_); rintro e w5 ⟨A5, k5, rfl, hS5, ho5, hb5⟩)
      | (go_at_call 14; (with_reducible refine (HG.out _ (HIn.out _ (last7 (by assumption)))).mono ?_); rintro e w6 ⟨A6, k6, rfl, hS6, ho6, hb6⟩; have R6 : Rest V (w.heap.size + 1) w6 := Rest.step (last7 (by assumption)) hb6; have hS6w := HKA.out _ R6; have HF6 := Lib.hid (fun a0 a1 a2 a3 a4 a5 : Value => HKA.out _ (Rest.set_ (Rest.set_ (Rest.set_ (Rest.set_ (Rest.set_ (Rest.set_ R6 0 (a0)) 1 (a1)) 2 (a2)) 3 (a3)) 4 (a4)) 5 (a5))); obtain ⟨u0, u1, u2, u3, u4, u5, hres⟩ := R6.2; clear R6; have r0 := hres.cell 0; have r1 := hres.cell 1; have r2 := hres.cell 2; have r3 := hres.cell 3; have r4 := hres.cell 4; have r5 := hres.cell 5; have g0 := hres.frozen 0; have g1 := hres.frozen 1; have g2 := hres.frozen 2; have g3 := hres.frozen 3; have g4 := hres.frozen 4; have g5 := hres.frozen 5))
  all_goals
    have G2 : Below w1.heap.size w1 w2 := by first | exact hb2 | exact up1 hb2 | exact up1 (up1 hb2)
    have G3 : Below w2.heap.size w2 w3 := by first | exact hb3 | exact up1 hb3
    have G4 : Below w3.heap.size w3 w4 := by first | exact hb4 | exact up1 hb4
    have z1 : V.heap.size ≤ w1.heap.size := by have h9 := hb1.size; first | (simp at h9; omega) | (have h8 : V.heap.size ≤ w1.heap.size := h9; exact h8)
    have z0 : w.heap.size + 2 ≤ V.heap.size := by have := HV.out.2.2.lt; omega
    have z2 := G2.size
    have z3 := G3.size
    have z4 := G4.size
    have z5 := hb5.size
    have G13 := G2.trans (G3.mono z2)
    have G14 := G13.trans (G4.mono (Nat.le_trans z2 z3))
    have G15 := G14.trans (hb5.mono (by omega))
    have G16 := G15.trans (hb6.mono (by omega))
    have G35 := G4.trans (hb5.mono z4)
    have G36 := G35.trans (hb6.mono (by omega))
    have y1 : ∀ g, (Value.slice A1 m.q.length k1).ownBlock = some g → w.heap.size + 2 ≤ g := fun g hg => by have h9 := ho1 g hg; first | (simp at h9; omega) | (have h8 : V.heap.size ≤ g := h9; omega)
    have y3 : ∀ g, (Value.slice A3 L1.length k3).ownBlock = some g → w.heap.size + 2 ≤ g := fun g hg => by have h9 := ho3 g hg; first | (simp at h9; omega) | (have h8 : w2.heap.size ≤ g := h9; omega)
    have y5 : ∀ g, (Value.slice A5 L2.length k5).ownBlock = some g → w.heap.size + 2 ≤ g := fun g hg => by have := ho5 g hg; omega
    have y6 : ∀ g, (Value.slice A6 L3.length k6).ownBlock = some g → w.heap.size + 2 ≤ g := fun g hg => by have := ho6 g hg; omega
    have s1 := hQ1.below G16 hQ1.lt
    have s3 := hS3.below G36 hS3.lt
    have s5 := hS5.below hb6 hS5.lt
    obtain ⟨F, hF⟩ : ∃ F, (((((w6.setCell ⟨w.heap.size + 1, 0, none⟩ (.int .u16 m.id)).setCell ⟨w.heap.size + 1, 1, none⟩ (.int .u16 m.bi)).setCell ⟨w.heap.size + 1, 2, none⟩ (.slice A1 m.q.length k1)).setCell ⟨w.heap.size + 1, 3, none⟩ (.slice A3 L1.length k3)).setCell ⟨w.heap.size + 1, 4, none⟩ (.slice A5 L2.length k5)).setCell ⟨w.heap.size + 1, 5, none⟩ (.slice A6 L3.length k6) = F := ⟨_, rfl⟩
    have hR : Rest V (w.heap.size + 1) F := by
      rw [← hF]
      exact (HF6.out _ _ _ _ _ _).2.2.2.2.2.2
    have hBF : Blk F (w.heap.size + 1) 26 #[.int .u16 m.id, .int .u16 m.bi, .slice A1 m.q.length k1, .slice A3 L1.length k3, .slice A5 L2.length k5, .slice A6 L3.length k6] := by
      rw [← hF]
      have h := (((((hres.set_ 0 (.int .u16 m.id)).set_ 1 (.int .u16 m.bi)).set_ 2 (.slice A1 m.q.length k1)).set_ 3 (.slice A3 L1.length k3)).set_ 4 (.slice A5 L2.length k5)).set_ 5 (.slice A6 L3.length k6)
      simpa using h
    have hK6 : KeepK (fun i => w.heap.size + 2 ≤ i) w6 F := by
      rw [← hF]
      have n : ∀ o i, (fun i => w.heap.size + 2 ≤ i) i → i ≠ (⟨w.heap.size + 1, o, none⟩ : Addr).block := fun o i hi => by show i ≠ w.heap.size + 1; have h9 : w.heap.size + 2 ≤ i := hi; omega
      exact ((((((KeepK.refl _ w6).setCell (n 0) _).setCell (n 1) _).setCell (n 2) _).setCell (n 3) _).setCell (n 4) _).setCell (n 5) _
    have hend := msg_end (id := m.id) (bi := m.bi) ((KeepK.of_below (K := fun i => i < w.heap.size) HV.out.1 (fun i hi => hi)).trans (hR.1.mono fun i hi => ⟨by omega, by omega⟩)) hK6 s1 y1 s3 y3 s5 y5 hS6 y6
    rw [hF]
    have HEND := Lib.hid hend
    have q0 := hBF.cell 0
    have q1 := hBF.cell 1
    have q2 := hBF.cell 2
    have q3 := hBF.cell 3
    have q4 := hBF.cell 4
    have q5 := hBF.cell 5
    clear hF hend hBF hR hK6 s1 s3 s5 y1 y3 y5 y6 G2 G3 G4 G13 G14 G15 G16 G35 G36 z0 z1 z2 z3 z4 z5 hres r0 r1 r2 r3 r4 r5 g0 g1 g2 g3 g4 g5 hb1 hb2 hb3 hb4 hb5 hb6 hsq2 hsq4 hQ1 hS3 hS5 hS6 ho1 ho3 ho5 ho6 hS6w
    go_wp2_with (fail)
    exact bodyPost_ret (v := .agg #[.int .u16 m.id, .int .u16 m.bi, .slice A1 m.q.length k1, .slice A3 L1.length k3, .slice A5 L2.length k5, .slice A6 L3.length k6]) (by simp [results, Try.results11, go_sem, q0, q1, q2, q3, q4, q5]) rfl HEND.out
end Go.Proofs.Ythjkdpphbipgfaa
