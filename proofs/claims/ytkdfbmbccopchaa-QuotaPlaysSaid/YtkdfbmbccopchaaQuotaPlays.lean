/- The walk of hardtacklaw44.QuotaPlays (begun). Conditions: none. -/
import Derived.Test.YtkdfbmbccopchaaPlaysB
import Derived.Test.YtkdfbmbccopchaaQuotaTurn
import Derived.Deep.DeepCutAuto
import Derived.Deep.CutBlock
namespace Go.Proofs.Ytkdfbmbccopchaa
open Go.RowKit Go.Lib

set_option maxRecDepth 100000 in
set_option maxHeartbeats 8000000 in
theorem quotaPlays_law (w : World) (room each : Int) (A : Option Addr) (xs : List QAct) (c : Nat) (hr : -9223372036854775808 ≤ room ∧ room ≤ 9223372036854775807) (he : -9223372036854775808 ≤ each ∧ each ≤ 9223372036854775807) (hU : QTab w A xs) (hc : xs.length ≤ c) (hm : c ≤ maxLen) :
    Calls Try.prog 4 #[.int .i64 room, .int .i64 each, .slice A xs.length c] w fun e w' => e = .returned (.bool true) ∧ Below w.heap.size w w' := by
  have HU := Lib.hid hU
  unfold maxLen at hm
  have hlM : (xs.length : Int) ≤ 9223372036854775807 := by omega
  have HL := Lib.hid (fun W => lives44 W)
  have HN := Lib.hid (fun W => fg_new room each W)
  have HR := Lib.hid (fun W => rnew44 room each W)
  clear hU hc hm
  go_enter Try.func4, Try.ntmps4
  go_wp2_with (fail)
  with_reducible refine (HL.out _).mono ?_
  rintro e w1 ⟨rfl, hb⟩
  have B1 := Lib.hid hb
  clear hb
  go_wp2_with (fail)
  with_reducible refine (HN.out _).mono ?_
  rintro e w2 hcase
  rcases hcase with ⟨rn, cn, g, rfl, rfl, hr1, hr2, hc1, hc2, rfl, hfg⟩ | ⟨hno, rfl, hb⟩
  case inr =>
    have B2 := Lib.hid (B1.out.trans (hb.mono B1.out.size))
    rw [decide_eq_false hno] at HR
    clear hb hno
    go_wp2_with (fail)
    with_reducible refine (HR.out _).mono ?_
    rintro e w3 ⟨rfl, hb⟩
    have B3 := Lib.hid (B2.out.trans (hb.mono B2.out.size))
    clear hb
    go_wp2_with (fail)
    go_ret
    exact ⟨rfl, B3.out.alloc B3.out.size _⟩
  have HF := Lib.hid (hfg.back B1.out)
  rw [decide_eq_true (show 1 ≤ (rn : Int) ∧ (rn : Int) ≤ 1024 ∧ 1 ≤ (cn : Int) ∧ (cn : Int) ≤ 1024 by omega)] at HR
  have HRC := Lib.hid (And.intro hr1 (And.intro hr2 (And.intro hc1 hc2)))
  clear hfg hr1 hr2 hc1 hc2
  go_wp2_with (fail)
  with_reducible refine (HR.out _).mono ?_
  rintro e w3 ⟨rfl, hb⟩
  have B3 := Lib.hid hb
  clear hb
  go_upto_region 5 with (fail)
  obtain ⟨bx, hbx⟩ : ∃ bx, w3.heap.size = bx := ⟨_, rfl⟩
  obtain ⟨W4, hW4⟩ : ∃ W4, w3.alloc (.cells #[.int .i64 (rn : Int), .int .i64 (cn : Int), .slice none 0 0] 40) = W4 := ⟨_, rfl⟩
  have P4 := Lib.hid (P2.start HF.out (B3.out.alloc B3.out.size (.cells #[.int .i64 (rn : Int), .int .i64 (cn : Int), .slice none 0 0] 40)) (bx := bx) (by rw [← hbx]; exact B3.out.size) (by rw [← hbx]; exact Blk.new _ _ _))
  rw [hW4] at P4 ⊢
  rw [hbx]
  clear hW4 hbx
  by_cases h100 : 100 < xs.length
  · have h1I : 100 < (xs.length : Int) := by omega
    clear h100
    go_wp2_with (fail)
    go_ret
    exact ⟨rfl, P4.out.f.below⟩
  have h1I : ¬ 100 < (xs.length : Int) := by omega
  have H100 := Lib.hid (show xs.length ≤ 100 by omega)
  clear h100
  go_wp2_with (fail)
  go_loopg [61] xs.length (fun gg v61 wr => ∃ (k b n : Nat) (A' : Option Addr) (c' : Nat) (rs : Rw) (cl : Cl) (K Q : Nat → Prop), v61 = .int .i64 (k : Int) ∧ Aside (gg + k = xs.length ∧ b ≤ k ∧ manyC cl ≤ k ∧ clOf rs = cl) ∧ Aside (P2 w wr g bx rn cn b cl K Q (.slice A' n c') (.slice A' n c') n rs))
  case atStart => exact ⟨0, 0, 0, none, 0, [], [], _, _, rfl, ⟨rfl, Nat.le_refl _, Nat.zero_le _, rfl⟩, P4.out⟩
  case round =>
    obtain ⟨k, b, n, A', c', rs, cl, K, Q, rfl, hg, hP⟩ := hrel
    by_cases hlt : k < xs.length
    · obtain ⟨b0, o, rfl, hal, hac⟩ := HU.out.2 (by omega)
      obtain ⟨y, hyk⟩ : ∃ y, xs[k]? = some y := ⟨_, List.getElem?_eq_getElem hlt⟩
      have hyo := HU.out.1 y (List.mem_of_getElem? hyk)
      have hbw : Below w.heap.size w wr := hP.out.f.below
      have a0 : wr.cell? ⟨b0, o + k * 3, none⟩ = some (.int .i64 y.k) := (hbw.cell (p := ⟨b0, o + k * 3, none⟩) hal).trans (hac k y hyk 0 _ rfl)
      have a1 : wr.cell? ⟨b0, o + k * 3 + 1, none⟩ = some (.int .u32 y.c) := (hbw.cell (p := ⟨b0, o + k * 3 + 1, none⟩) hal).trans (hac k y hyk 1 _ rfl)
      have a2 : wr.cell? ⟨b0, o + k * 3 + 2, none⟩ = some (.int .i64 y.i) := (hbw.cell (p := ⟨b0, o + k * 3 + 2, none⟩) hal).trans (hac k y hyk 2 _ rfl)
      have hltI : (k : Int) < (xs.length : Int) := by omega
      have hxl : (xs.length : Int) ≤ 100 := by have := H100.out; omega
      have hb5 : Below wr.heap.size wr (wr.alloc (.cells #[.int .i64 y.k, .int .u32 y.c, .int .i64 y.i] 30)) := (Below.refl _ _).alloc (Nat.le_refl _) _
      have hP5 := hP.out.below hb5
      have hA5 := Blk.new wr 30 #[.int .i64 y.k, .int .u32 y.c, .int .i64 y.i]
      have HX := Lib.hid (And.intro hlt (And.intro hyk (And.intro hyo hP5)))
      have HA5 := Lib.hid hA5
      clear hac hyk hyo hbw hb5 hP5 hA5 hal hlt
      go_upto_block 2 with (fail)
      obtain ⟨ba, hba⟩ : ∃ ba, wr.heap.size = ba := ⟨_, rfl⟩
      obtain ⟨W5, hW5⟩ : ∃ W5, wr.alloc (.cells #[.int .i64 y.k, .int .u32 y.c, .int .i64 y.i] 30) = W5 := ⟨_, rfl⟩
      have HX5 := Lib.hid HX.out.2.2.2
      rw [hW5] at HA5 HX5 ⊢
      rw [hba] at HA5 HX5 ⊢
      have HBA := Lib.hid (show ba ≠ bx ∧ ¬ Q ba from ⟨fun e => by have := hP.out.hi bx hP.out.kb; omega, fun e => by have := hP.out.hi ba (hP.out.qk ba e).1; omega⟩)
      clear hW5 hba a0 a1 a2
      obtain ⟨K5, hK5⟩ : ∃ K5, (fun i => K i ∨ (ba ≤ i ∧ i < W5.heap.size)) = K5 := ⟨_, rfl⟩
      have HKA : RowKit.Hid (K5 ba) := Lib.hid (by rw [← hK5]; exact .inr ⟨Nat.le_refl _, HA5.out.lt⟩)
      rw [hK5] at HX5
      clear hK5
      have x1 := HA5.out.cell 1
      have x2 := HA5.out.cell 2
      have b0c := HX5.out.box.cell 0
      have b1c := HX5.out.box.cell 1
      have b2c := HX5.out.box.cell 2
      go_cut [] (fun wx => ∃ (b' n' : Nat) (A2 : Option Addr) (c2 : Nat) (rs' : Rw) (cl' : Cl) (K' Q' : Nat → Prop), Aside (b' ≤ k + 1 ∧ manyC cl' ≤ k + 1 ∧ clOf rs' = cl') ∧ Aside (P2 w wx g bx rn cn b' cl' K' Q' (.slice A2 n' c2) (.slice A2 n' c2) n' rs') ∧ Aside (Blk wx ba 30 #[.int .i64 y.k, .int .u32 y.c, .int .i64 y.i]))
      case first =>
        have hcm : manyC (clOf rs) ≤ 100 := by have := hg.out; rw [this.2.2.2]; have := H100.out; omega
        have hnl : n ≤ 100 := by
          have h1 := len_many (cl := clOf rs) (fun p hp => (hP.out.f.okc.ok p (by rw [hg.out.2.2.2] at hp; exact hp)).2.2)
          have h2 := hP.out.q.len
          have : (clOf rs).length = rs.length := by simp [clOf]
          omega
        have HB := Lib.hid (And.intro hcm hnl)
        clear hcm hnl
        by_cases hk0 : y.k = 0
        · have hkb : (y.k == 0) = true := by simp [hk0]
          have RP := Lib.hid (rPut44 rn cn A' n c' Q rs y.c y.i W5 HX5.out.q (by have := HB.out; omega) (by have := HB.out; omega) (by have := get_many (clOf rs) y.c; have := HB.out; omega) HRC.out.2.1 HRC.out.2.2.2)
          rw [hg.out.2.2.2] at RP
          clear hk0
          go_wp2_with (fail)
          refine RP.out.mono ?_
          rintro e w6 ⟨A6, n6, c6, rs6, rfl, hq6, hcl6, hb6⟩
          have P6 := Lib.hid (HX5.out.ref hb6 hq6)
          have HA6 := Lib.hid (And.intro (HA5.out.below hb6 HA5.out.lt) hcl6)
          clear hq6 hcl6 hb6 x1 x2 b0c b1c b2c RP
          have b3 := P6.out.box.cell 0
          go_upto_region 15 with (fail)
          obtain ⟨bn, hbn⟩ : ∃ bn, w6.heap.size = bn := ⟨_, rfl⟩
          obtain ⟨W7, hW7⟩ : ∃ W7, w6.alloc (.cells #[.int .i64 (rn : Int), .int .i64 (cn : Int), .slice A6 n6 c6] 40) = W7 := ⟨_, rfl⟩
          have hb7 : Below w6.heap.size w6 W7 := by rw [← hW7]; exact (Below.refl _ _).alloc (Nat.le_refl _) _
          have P7 := Lib.hid (P6.out.below hb7)
          have HN7 : RowKit.Hid (Blk W7 bn 40 #[.int .i64 (rn : Int), .int .i64 (cn : Int), .slice A6 n6 c6]) := Lib.hid (by rw [← hW7, ← hbn]; exact Blk.new _ _ _)
          have HA7 := Lib.hid (HA6.out.1.below hb7 HA6.out.1.lt)
          rw [hW7, hbn]
          clear hW7 hbn hb7 b3
          have n0 := HN7.out.cell 0
          have n1 := HN7.out.cell 1
          have n2 := HN7.out.cell 2
          have p0 := P7.out.box.cell 0
          have p1 := P7.out.box.cell 1
          have p2 := P7.out.box.cell 2
          have f0 := P7.out.box.frozen 0
          have f1 := P7.out.box.frozen 1
          have f2 := P7.out.box.frozen 2
          go_upto_region 16 with (fail)
          have P8 := Lib.hid P7.out.lay
          have HA8 := Lib.hid (((HA7.out.far (p := ⟨bx, 0, none⟩) HBA.out.1 (.int .i64 (rn : Int))).far (p := ⟨bx, 1, none⟩) HBA.out.1 (.int .i64 (cn : Int))).far (p := ⟨bx, 2, none⟩) HBA.out.1 (.slice A6 n6 c6))
          obtain ⟨W8, hW8⟩ : ∃ W8, (((W7.setCell ⟨bx, 0, none⟩ (.int .i64 (rn : Int))).setCell ⟨bx, 1, none⟩ (.int .i64 (cn : Int))).setCell ⟨bx, 2, none⟩ (.slice A6 n6 c6)) = W8 := ⟨_, rfl⟩
          rw [hW8] at P8 HA8 ⊢
          clear hW8 n0 n1 n2 p0 p1 p2 f0 f1 f2
          have x1 := HA8.out.cell 1
          have x2 := HA8.out.cell 2
          have hyo := HX.out.2.2.1
          have hcl := len_many (cl := cl) (fun p hp => (P8.out.f.okc.ok p hp).2.2)
          have QP := Lib.hid (P8.out.f.put P8.out.hi y.c y.i hyo.2.1.1 hyo.2.1.2 HRC.out.2.1 HRC.out.2.2.2 (by have := hg.out; have := H100.out; omega) (by have := hg.out; have := H100.out; omega) (by have := hg.out; have := H100.out; omega) (by have := get_many cl y.c; have := hg.out; have := H100.out; omega))
          clear hyo hcl
          go_wp2_with (fail)
          refine QP.out.mono ?_
          rintro e w9 ⟨rfl, hf9, hk9⟩
          have P9 := Lib.hid (P8.out.turn hf9 hk9)
          have HA9 := Lib.hid (HA8.out.keepK hk9 ⟨HA8.out.lt, .inr (.inl (.inl HKA.out))⟩)
          clear hf9 hk9 x1 x2 QP
          go_wp2_with (fail)
          go_meet
          case rel => exact ⟨b + 1, n6, A6, c6, rs6, _, _, _, ⟨by have := hg.out; omega, by have := put_many rn cn cl y.c y.i; have := hg.out; omega, HA6.out.2⟩, P9.out, HA9.out⟩
        have hkb : (y.k == 0) = false := by simp [hk0]
        by_cases hk1 : y.k = 1
        · have hkb1 : (y.k == 1) = true := by simp [hk1]
          have RP := Lib.hid (rNext44 rn cn A' n c' Q rs W5 HX5.out.q (fun p hp => (HX5.out.f.okc.ok p (by rw [hg.out.2.2.2] at hp; exact hp)).2.2) (by have := HB.out; omega) (by have := HB.out; omega))
          rw [hg.out.2.2.2] at RP
          clear hk0 hk1
          go_wp2_with (fail)
          refine RP.out.mono ?_
          rintro e w6 ⟨A6, n6, c6, rs6, rfl, hq6, hcl6, hb6⟩
          have P6 := Lib.hid (HX5.out.ref hb6 hq6)
          have HA6 := Lib.hid (And.intro (HA5.out.below hb6 HA5.out.lt) hcl6)
          clear hq6 hcl6 hb6 x1 x2 b0c b1c b2c RP
          have b3 := P6.out.box.cell 0
          go_upto_region 20 with (fail)
          obtain ⟨bn, hbn⟩ : ∃ bn, w6.heap.size = bn := ⟨_, rfl⟩
          obtain ⟨W7, hW7⟩ : ∃ W7, w6.alloc (.cells #[.int .i64 (rn : Int), .int .i64 (cn : Int), .slice A6 n6 c6] 40) = W7 := ⟨_, rfl⟩
          have hb7 : Below w6.heap.size w6 W7 := by rw [← hW7]; exact (Below.refl _ _).alloc (Nat.le_refl _) _
          have P7 := Lib.hid (P6.out.below hb7)
          have HN7 : RowKit.Hid (Blk W7 bn 40 #[.int .i64 (rn : Int), .int .i64 (cn : Int), .slice A6 n6 c6]) := Lib.hid (by rw [← hW7, ← hbn]; exact Blk.new _ _ _)
          have HA7 := Lib.hid (HA6.out.1.below hb7 HA6.out.1.lt)
          rw [hW7, hbn]
          clear hW7 hbn hb7 b3
          have n0 := HN7.out.cell 0
          have n1 := HN7.out.cell 1
          have n2 := HN7.out.cell 2
          have p0 := P7.out.box.cell 0
          have p1 := P7.out.box.cell 1
          have p2 := P7.out.box.cell 2
          have f0 := P7.out.box.frozen 0
          have f1 := P7.out.box.frozen 1
          have f2 := P7.out.box.frozen 2
          go_upto_region 21 with (fail)
          have P8 := Lib.hid P7.out.lay
          have HA8 := Lib.hid (((HA7.out.far (p := ⟨bx, 0, none⟩) HBA.out.1 (.int .i64 (rn : Int))).far (p := ⟨bx, 1, none⟩) HBA.out.1 (.int .i64 (cn : Int))).far (p := ⟨bx, 2, none⟩) HBA.out.1 (.slice A6 n6 c6))
          obtain ⟨W8, hW8⟩ : ∃ W8, (((W7.setCell ⟨bx, 0, none⟩ (.int .i64 (rn : Int))).setCell ⟨bx, 1, none⟩ (.int .i64 (cn : Int))).setCell ⟨bx, 2, none⟩ (.slice A6 n6 c6)) = W8 := ⟨_, rfl⟩
          rw [hW8] at P8 HA8 ⊢
          clear hW8 n0 n1 n2 p0 p1 p2 f0 f1 f2
          have x1 := HA8.out.cell 1
          have x2 := HA8.out.cell 2
          have hyo := HX.out.2.2.1
          have hcl := len_many (cl := cl) (fun p hp => (P8.out.f.okc.ok p hp).2.2)
          have QP := Lib.hid (P8.out.f.next P8.out.hi (by have := hg.out; have := H100.out; omega) (by have := hg.out; have := H100.out; omega) (by have := hg.out; have := H100.out; omega))
          clear hyo hcl
          go_wp2_with (fail)
          refine QP.out.mono ?_
          rintro e w9 ⟨rfl, hf9, hk9⟩
          have P9 := Lib.hid (P8.out.turn hf9 hk9)
          have HA9 := Lib.hid (HA8.out.keepK hk9 ⟨HA8.out.lt, .inr (.inl (.inl HKA.out))⟩)
          clear hf9 hk9 x1 x2 QP
          go_wp2_with (fail)
          go_meet
          case rel => exact ⟨b + 1, n6, A6, c6, rs6, _, _, _, ⟨by have := hg.out; omega, by have := next_many cl; have := hg.out; omega, HA6.out.2⟩, P9.out, HA9.out⟩
        have hkb1 : (y.k == 1) = false := by simp [hk1]
        by_cases hk2 : y.k = 2
        · have hkb2 : (y.k == 2) = true := by simp [hk2]
          have RP := Lib.hid (rDrop44 rn cn A' n c' Q rs y.c W5 HX5.out.q (by have := HB.out; omega) (by rw [hg.out.2.2.2]; exact HX5.out.f.okc.nodup))
          rw [hg.out.2.2.2] at RP
          clear hk0 hk1 hk2
          go_wp2_with (fail)
          refine RP.out.mono ?_
          rintro e w6 ⟨A6, n6, c6, rs6, rfl, hq6, hcl6, hb6⟩
          have P6 := Lib.hid (HX5.out.ref hb6 hq6)
          have HA6 := Lib.hid (And.intro (HA5.out.below hb6 HA5.out.lt) hcl6)
          clear hq6 hcl6 hb6 x1 x2 b0c b1c b2c RP
          have b3 := P6.out.box.cell 0
          go_upto_region 26 with (fail)
          obtain ⟨bn, hbn⟩ : ∃ bn, w6.heap.size = bn := ⟨_, rfl⟩
          obtain ⟨W7, hW7⟩ : ∃ W7, w6.alloc (.cells #[.int .i64 (rn : Int), .int .i64 (cn : Int), .slice A6 n6 c6] 40) = W7 := ⟨_, rfl⟩
          have hb7 : Below w6.heap.size w6 W7 := by rw [← hW7]; exact (Below.refl _ _).alloc (Nat.le_refl _) _
          have P7 := Lib.hid (P6.out.below hb7)
          have HN7 : RowKit.Hid (Blk W7 bn 40 #[.int .i64 (rn : Int), .int .i64 (cn : Int), .slice A6 n6 c6]) := Lib.hid (by rw [← hW7, ← hbn]; exact Blk.new _ _ _)
          have HA7 := Lib.hid (HA6.out.1.below hb7 HA6.out.1.lt)
          rw [hW7, hbn]
          clear hW7 hbn hb7 b3
          have n0 := HN7.out.cell 0
          have n1 := HN7.out.cell 1
          have n2 := HN7.out.cell 2
          have p0 := P7.out.box.cell 0
          have p1 := P7.out.box.cell 1
          have p2 := P7.out.box.cell 2
          have f0 := P7.out.box.frozen 0
          have f1 := P7.out.box.frozen 1
          have f2 := P7.out.box.frozen 2
          go_upto_region 27 with (fail)
          have P8 := Lib.hid P7.out.lay
          have HA8 := Lib.hid (((HA7.out.far (p := ⟨bx, 0, none⟩) HBA.out.1 (.int .i64 (rn : Int))).far (p := ⟨bx, 1, none⟩) HBA.out.1 (.int .i64 (cn : Int))).far (p := ⟨bx, 2, none⟩) HBA.out.1 (.slice A6 n6 c6))
          obtain ⟨W8, hW8⟩ : ∃ W8, (((W7.setCell ⟨bx, 0, none⟩ (.int .i64 (rn : Int))).setCell ⟨bx, 1, none⟩ (.int .i64 (cn : Int))).setCell ⟨bx, 2, none⟩ (.slice A6 n6 c6)) = W8 := ⟨_, rfl⟩
          rw [hW8] at P8 HA8 ⊢
          clear hW8 n0 n1 n2 p0 p1 p2 f0 f1 f2
          have x1 := HA8.out.cell 1
          have x2 := HA8.out.cell 2
          have hyo := HX.out.2.2.1
          have hcl := len_many (cl := cl) (fun p hp => (P8.out.f.okc.ok p hp).2.2)
          have QP := Lib.hid (P8.out.f.drop P8.out.hi y.c hyo.2.1.1 hyo.2.1.2 (by have := hg.out; have := H100.out; omega) (by have := hg.out; have := H100.out; omega) (by have := hg.out; have := H100.out; omega))
          clear hyo hcl
          go_wp2_with (fail)
          refine QP.out.mono ?_
          rintro e w9 ⟨rfl, hf9, hk9⟩
          have P9 := Lib.hid (P8.out.turn hf9 hk9)
          have HA9 := Lib.hid (HA8.out.keepK hk9 ⟨HA8.out.lt, .inr (.inl (.inl HKA.out))⟩)
          clear hf9 hk9 x1 x2 QP
          go_wp2_with (fail)
          go_meet
          case rel => exact ⟨b + 1, n6, A6, c6, rs6, _, _, _, ⟨by have := hg.out; omega, by have := drop_many cl y.c; have := hg.out; omega, HA6.out.2⟩, P9.out, HA9.out⟩
        have hkb2 : (y.k == 2) = false := by simp [hk2]
        clear hk0 hk1 hk2
        go_wp2_with (fail)
        go_meet
        case rel => exact ⟨b, n, A', c', rs, cl, _, _, ⟨by have := hg.out; omega, by have := hg.out; omega, hg.out.2.2.2⟩, HX5.out, HA5.out⟩
      case rest =>
        obtain ⟨b', n', A2, c2, rs', cl', K', Q', hb', hP', hA'⟩ := hcut
        obtain ⟨V, hV⟩ : ∃ V, V = wc := ⟨_, rfl⟩
        subst hV
        have HP' := Lib.hid hP'.out
        have HB' := Lib.hid hb'.out
        have z0 := HP'.out.box.cell 0
        have z1 := HP'.out.box.cell 1
        have z2 := HP'.out.box.cell 2
        have z3 := hA'.out.cell 1
        have zx := HP'.out.box.lt
        have za := hA'.out.lt
        have zr : Below V.heap.size V V := Below.refl _ _
        have hmn : manyC (clOf rs') ≤ 101 := by rw [HB'.out.2.2]; have := HB'.out; have := HX.out.1; have := H100.out; omega
        have hn' : n' ≤ 101 := by
          have h1 := len_many (cl := clOf rs') (fun p hp => (HP'.out.f.okc.ok p (by rw [HB'.out.2.2] at hp; exact hp)).2.2)
          have h2 := HP'.out.q.len
          have : (clOf rs').length = rs'.length := by simp [clOf]
          omega
        have hcl' : cl'.length = n' := by rw [← HB'.out.2.2, ← HP'.out.q.len]; simp [clOf]
        have hrow : (rs'.map fun q => u32V q.1.1) = (cl'.map Prod.fst).map u32V := by rw [← HB'.out.2.2]; simp [clOf]
        have hrow2 : (cl'.map fun p => u32V p.1) = (cl'.map Prod.fst).map u32V := by simp
        have HQ1 := Lib.hid (fun W (hb : Below V.heap.size V W) => (HP'.out.below hb).f.len)
        have HQ2 := Lib.hid (fun W (hb : Below V.heap.size V W) => rLen44 rn cn A2 n' c2 Q' rs' W (HP'.out.below hb).q (by omega) (by omega))
        have HQ3 := Lib.hid (fun W (hb : Below V.heap.size V W) => (HP'.out.below hb).f.of_ y.c HX.out.2.2.1.2.1.1 HX.out.2.2.1.2.1.2)
        have HQ4 := Lib.hid (fun W (hb : Below V.heap.size V W) => rOf44 rn cn A2 n' c2 Q' rs' y.c W (HP'.out.below hb).q (by omega))
        have HQ5 := Lib.hid (fun W (hb : Below V.heap.size V W) => (HP'.out.below hb).f.row (by omega))
        have HQ6 := Lib.hid (fun W (hb : Below V.heap.size V W) => rRow44 rn cn A2 n' c2 Q' rs' W (HP'.out.below hb).q (by omega))
        rw [HB'.out.2.2] at HQ2 HQ4
        unfold FreshPost at HQ5 HQ6
        rw [hcl', hrow2] at HQ5
        rw [hrow] at HQ6
        have HSN := Lib.hid (fun (u v : Value) (W : World) h1 h2 => (sameNumbers_any u v n' (cl'.map Prod.fst) W h1 h2 (by omega)).mono (R' := fun e w' => e = .returned (.bool true) ∧ Below W.heap.size W w') fun e w' h => ⟨h.1, by obtain ⟨_, kk, hk⟩ := h; rw [hk]; exact below_drewN (Below.refl W.heap.size W) kk⟩)
        clear hmn hn' hcl' hrow hrow2 b0c b1c b2c x1 x2
        go_wp2_with (fail)
        go_region_held3 (fun w' => w'.cell? ⟨bx, 0, none⟩ = some (.int .i64 (rn : Int)) ∧ w'.cell? ⟨bx, 1, none⟩ = some (.int .i64 (cn : Int)) ∧ w'.cell? ⟨bx, 2, none⟩ = some (.slice A2 n' c2) ∧ w'.cell? ⟨ba, 1, none⟩ = some (.int .u32 y.c) ∧ Below V.heap.size V w')
          (first | assumption | exact ⟨z0, z1, z2, z3, zr⟩ | exact kp5D (by assumption) | exact kp5D ⟨z0, z1, z2, z3, zr⟩ | exact kp5 zx za (by assumption) hb | exact kp5 zx za (kp5D ⟨z0, z1, z2, z3, zr⟩) hb)
          (first
            | (go_at_call 13; refine (HQ1.out _ (last5 (by assumption))).mono ?_; rintro e w' ⟨rfl, rfl⟩)
            | (go_at_call 21; refine (HQ2.out _ (last5 (by assumption))).mono ?_; rintro e w' ⟨rfl, hb⟩; have hbs := hb.size)
            | (go_at_call 22; refine (HQ3.out _ (last5 (by assumption))).mono ?_; rintro e w' ⟨rfl, rfl⟩)
            | (go_at_call 23; refine (HQ4.out _ (last5 (by assumption))).mono ?_; rintro e w' ⟨rfl, hb⟩; have hbs := hb.size)
            | (go_at_call 14; refine (HQ5.out _ (last5 (by assumption))).mono ?_; rintro e w' ⟨v1, rfl, hS1, hO1, hb⟩; have hbs := hb.size; first | have SB := Lib.hid (And.intro hS1 (RS2.out.below hb fun i hi => RS2.out.lt i hi)) | have RS1 := Lib.hid hS1)
            | (go_at_call 25; refine (HQ6.out _ (last5 (by assumption))).mono ?_; rintro e w' ⟨v2, rfl, hS2, hO2, hb⟩; have hbs := hb.size; first | have SB := Lib.hid (And.intro (RS1.out.below hb fun i hi => RS1.out.lt i hi) hS2) | have RS2 := Lib.hid hS2)
            | (go_at_call 24; refine (HSN.out _ _ _ SB.out.1 SB.out.2).mono ?_; rintro e w' ⟨rfl, hb⟩; have hbs := hb.size))
        all_goals
          have hbF : Below V.heap.size V w' := last5 (by assumption)
          have P10 := Lib.hid (HP'.out.below hbF)
          clear hbF
          go_wp2_with (fail)
          go_roundg (xs.length - (k + 1))
          case measure => have := hg.out.1; have := HX.out.1; omega
          case rel => exact ⟨k + 1, b', n', A2, c2, rs', cl', _, _, by go_num, ⟨by have := hg.out; have := HX.out.1; omega, HB'.out.1, HB'.out.2.1, HB'.out.2.2⟩, P10.out⟩
    · have hltI : ¬ (k : Int) < (xs.length : Int) := by omega
      clear hlt
      go_wp2_with (fail)
      go_ret
      exact ⟨rfl, hP.out.f.below⟩
end Go.Proofs.Ytkdfbmbccopchaa
