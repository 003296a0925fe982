/- The walk of hardtacklaw02.WalkOrder. -/
import Derived.Test.YtjhhhkhcnohmiaaLives02
import Derived.Test.YtjhhhkhcnohmiaaWalkP
namespace Go.Proofs.Ytjhhhkhcnohmiaa
open Go.RowKit Go.Lib

/-- Where the count of three stands. -/
def Ord3 (n1 n2 : Int) (g : Nat) (v7 v47 : Value) : Prop :=
  (g = 3 ∧ v7 = .int .i64 0 ∧ v47 = .int .i64 0) ∨ (g = 2 ∧ v7 = .int .i64 n1 ∧ v47 = .int .i64 1) ∨ (g = 1 ∧ v7 = .int .i64 n2 ∧ v47 = .int .i64 2) ∨ (g = 0 ∧ v7 = .int .i64 1 ∧ v47 = .int .i64 3)
theorem less_no {a b : Bs} (h : (isName a && isName b) = false) : lessP a b = false := by
  unfold lessP
  rw [← Bool.and_assoc, h, Bool.false_and]

set_option maxHeartbeats 8000000 in
set_option maxRecDepth 100000 in
theorem order_no (a b c : ByteArray) (ha : a.size ≤ maxLen) (hb : b.size ≤ maxLen) (hc : c.size ≤ maxLen) (w : World) (hn : (isName a.data.toList && (isName b.data.toList && isName c.data.toList)) = false) :
    Calls Try.prog 9 #[.string a, .string b, .string c] w fun e w' => e = .returned (.bool true) ∧ Below w.heap.size w w' := by
  have HCa := Lib.hid (fun W => Check_any a ha W)
  have HCb := Lib.hid (fun W => Check_any b hb W)
  have HCc := Lib.hid (fun W => Check_any c hc W)
  have HL := Lib.hid (fun W => Less_any a b ha hb W)
  have L0 := Lib.hid (Below.refl w.heap.size w)
  rcases chk_cases a.data.toList with ⟨ha1, ha2⟩ | ⟨ha1, ha2⟩
  · rw [ha2] at HCa
    rcases chk_cases b.data.toList with ⟨hb1, hb2⟩ | ⟨hb1, hb2⟩
    · rw [hb2] at HCb
      have hcn : isName c.data.toList = false := by rw [ha1, hb1] at hn; simpa using hn
      have hc2 : chkN c.data.toList = 2 := by unfold chkN; rw [if_neg (by rw [hcn]; simp)]
      rw [hc2] at HCc
      obtain ⟨l, hl⟩ : ∃ l, lessP a.data.toList b.data.toList = l := ⟨_, rfl⟩
      rw [hl] at HL
      clear ha1 ha2 hb1 hb2 hcn hc2 hl hn ha hb hc
      cases l
      · skip
        go_enter Try.func9, Try.ntmps9
        go_wp2_with (fail)
        refine (lives02 _).mono ?_
        rintro e w1 ⟨rfl, hb⟩
        have L1 := Lib.hid (L0.out.trans (hb.mono L0.out.size))
        clear hb
        go_wp2_with (fail)
        refine (HCa.out _).mono ?_
        rintro e w2 ⟨rfl, hb⟩
        have L2 := Lib.hid (L1.out.trans (hb.mono L1.out.size))
        clear hb
        go_wp2_with (fail)
        refine (HCb.out _).mono ?_
        rintro e w3 ⟨rfl, hb⟩
        have L3 := Lib.hid (L2.out.trans (hb.mono L2.out.size))
        clear hb
        go_wp2_with (fail)
        refine (HCc.out _).mono ?_
        rintro e w4 ⟨rfl, hb⟩
        have L4 := Lib.hid (L3.out.trans (hb.mono L3.out.size))
        clear hb
        go_wp2_with (fail)
        refine (HL.out _).mono ?_
        rintro e w5 ⟨rfl, hb⟩
        have L5 := Lib.hid (L4.out.trans (hb.mono L4.out.size))
        clear hb
        go_wp2_with (fail)
        go_ret
        exact ⟨rfl, L5.out⟩
      · skip
        go_enter Try.func9, Try.ntmps9
        go_wp2_with (fail)
        refine (lives02 _).mono ?_
        rintro e w1 ⟨rfl, hb⟩
        have L1 := Lib.hid (L0.out.trans (hb.mono L0.out.size))
        clear hb
        go_wp2_with (fail)
        refine (HCa.out _).mono ?_
        rintro e w2 ⟨rfl, hb⟩
        have L2 := Lib.hid (L1.out.trans (hb.mono L1.out.size))
        clear hb
        go_wp2_with (fail)
        refine (HCb.out _).mono ?_
        rintro e w3 ⟨rfl, hb⟩
        have L3 := Lib.hid (L2.out.trans (hb.mono L2.out.size))
        clear hb
        go_wp2_with (fail)
        refine (HCc.out _).mono ?_
        rintro e w4 ⟨rfl, hb⟩
        have L4 := Lib.hid (L3.out.trans (hb.mono L3.out.size))
        clear hb
        go_wp2_with (fail)
        refine (HL.out _).mono ?_
        rintro e w5 ⟨rfl, hb⟩
        have L5 := Lib.hid (L4.out.trans (hb.mono L4.out.size))
        clear hb
        go_wp2_with (fail)
        refine (HCc.out _).mono ?_
        rintro e w6 ⟨rfl, hb⟩
        have L6 := Lib.hid (L5.out.trans (hb.mono L5.out.size))
        clear hb
        go_wp2_with (fail)
        go_ret
        exact ⟨rfl, L6.out⟩
    · rw [hb2] at HCb
      rw [less_no (by rw [hb1, Bool.and_false])] at HL
      clear ha1 ha2 hb1 hb2 hn ha hb hc
      go_enter Try.func9, Try.ntmps9
      go_wp2_with (fail)
      refine (lives02 _).mono ?_
      rintro e w1 ⟨rfl, hb⟩
      have L1 := Lib.hid (L0.out.trans (hb.mono L0.out.size))
      clear hb
      go_wp2_with (fail)
      refine (HCa.out _).mono ?_
      rintro e w2 ⟨rfl, hb⟩
      have L2 := Lib.hid (L1.out.trans (hb.mono L1.out.size))
      clear hb
      go_wp2_with (fail)
      refine (HCb.out _).mono ?_
      rintro e w3 ⟨rfl, hb⟩
      have L3 := Lib.hid (L2.out.trans (hb.mono L2.out.size))
      clear hb
      go_wp2_with (fail)
      refine (HL.out _).mono ?_
      rintro e w4 ⟨rfl, hb⟩
      have L4 := Lib.hid (L3.out.trans (hb.mono L3.out.size))
      clear hb
      go_wp2_with (fail)
      go_ret
      exact ⟨rfl, L4.out⟩
  · rw [ha2] at HCa
    rw [less_no (by rw [ha1, Bool.false_and])] at HL
    clear ha1 ha2 hn ha hb hc
    go_enter Try.func9, Try.ntmps9
    go_wp2_with (fail)
    refine (lives02 _).mono ?_
    rintro e w1 ⟨rfl, hb⟩
    have L1 := Lib.hid (L0.out.trans (hb.mono L0.out.size))
    clear hb
    go_wp2_with (fail)
    refine (HCa.out _).mono ?_
    rintro e w2 ⟨rfl, hb⟩
    have L2 := Lib.hid (L1.out.trans (hb.mono L1.out.size))
    clear hb
    go_wp2_with (fail)
    refine (HL.out _).mono ?_
    rintro e w3 ⟨rfl, hb⟩
    have L3 := Lib.hid (L2.out.trans (hb.mono L2.out.size))
    clear hb
    go_wp2_with (fail)
    go_ret
    exact ⟨rfl, L3.out⟩

set_option maxHeartbeats 16000000 in
set_option maxRecDepth 100000 in
theorem order_1 (a b c : ByteArray) (ha : a.size ≤ maxLen) (hb : b.size ≤ maxLen) (hc : c.size ≤ maxLen) (w : World) (hna : isName a.data.toList = true) (hnb : isName b.data.toList = true) (hnc : isName c.data.toList = true)
    (h1 : lessP a.data.toList b.data.toList = true) (h2 : lessP b.data.toList a.data.toList = false) (h3 : sameB a.data.toList b.data.toList = false) :
    Calls Try.prog 9 #[.string a, .string b, .string c] w fun e w' => e = .returned (.bool true) ∧ Below w.heap.size w w' := by
  have HCa := Lib.hid (fun W => Check_any a ha W)
  have HCb := Lib.hid (fun W => Check_any b hb W)
  have HCc := Lib.hid (fun W => Check_any c hc W)
  rw [show chkN a.data.toList = 0 from by unfold chkN; rw [if_pos hna]] at HCa
  rw [show chkN b.data.toList = 0 from by unfold chkN; rw [if_pos hnb]] at HCb
  rw [show chkN c.data.toList = 0 from by unfold chkN; rw [if_pos hnc]] at HCc
  have H12 := Lib.hid (fun W => Less_any a b ha hb W)
  have H21 := Lib.hid (fun W => Less_any b a hb ha W)
  have HS := Lib.hid (fun W => Same_any a b (by unfold maxLen at ha; omega) (by unfold maxLen at hb; omega) W)
  have H23 := Lib.hid (fun W => Less_any b c hb hc W)
  have H13 := Lib.hid (fun W => Less_any a c ha hc W)
  have HWca := Lib.hid (fun W => Within_any c a hc ha W)
  have HWba := Lib.hid (fun W => Within_any b a hb ha W)
  rw [h1] at H12
  rw [h2] at H21
  rw [h3] at HS
  have HT := Lib.hid (fun h => less_trans (c := c.data.toList) h1 h)
  have HB := Lib.hid (fun hw h => less_between (c := c.data.toList) hw h1 h)
  have HN := Lib.hid hna
  have HA := Lib.hid ha
  obtain ⟨l3, hl3⟩ : ∃ l3, lessP b.data.toList c.data.toList = l3 := ⟨_, rfl⟩
  obtain ⟨wi, hwi⟩ : ∃ wi, withinB c.data.toList a.data.toList = wi := ⟨_, rfl⟩
  rw [hl3] at H23
  rw [hwi] at HWca
  have H3 := Lib.hid hl3
  have HW := Lib.hid hwi
  clear hna hnb hnc h1 h2 h3 hb hc hl3 hwi
  have L0 := Lib.hid (Below.refl w.heap.size w)
  go_enter Try.func9, Try.ntmps9
  go_wp2_with (fail)
  refine (lives02 _).mono ?_
  rintro e w1 ⟨rfl, hb⟩
  have L1 := Lib.hid (L0.out.trans (hb.mono L0.out.size))
  clear hb
  go_wp2_with (fail)
  refine (HCa.out _).mono ?_
  rintro e w2 ⟨rfl, hb⟩
  have L2 := Lib.hid (L1.out.trans (hb.mono L1.out.size))
  clear hb
  go_wp2_with (fail)
  refine (HCb.out _).mono ?_
  rintro e w3 ⟨rfl, hb⟩
  have L3 := Lib.hid (L2.out.trans (hb.mono L2.out.size))
  clear hb
  go_wp2_with (fail)
  refine (HCc.out _).mono ?_
  rintro e w4 ⟨rfl, hb⟩
  have L4 := Lib.hid (L3.out.trans (hb.mono L3.out.size))
  clear hb
  go_wp2_with (fail)
  refine (H12.out _).mono ?_
  rintro e w5 ⟨rfl, hb⟩
  have L5 := Lib.hid (L4.out.trans (hb.mono L4.out.size))
  clear hb
  go_wp2_with (fail)
  refine (H21.out _).mono ?_
  rintro e w6 ⟨rfl, hb⟩
  have L6 := Lib.hid (L5.out.trans (hb.mono L5.out.size))
  clear hb
  go_wp2_with (fail)
  refine (HS.out _).mono ?_
  rintro e w7 ⟨rfl, hb⟩
  have L7 := Lib.hid (L6.out.trans (hb.mono L6.out.size))
  clear hb
  go_wp2_with (fail)
  obtain ⟨W, hW⟩ : ∃ W, w7.alloc (.cells #[.bool true, .bool false, .bool false] 4) = W := ⟨_, rfl⟩
  have hblk : Blk W w7.heap.size 4 #[.bool true, .bool false, .bool false] := by rw [← hW]; exact Blk.new w7 _ _
  have c0 := hblk.cell 0
  have c1 := hblk.cell 1
  have c2 := hblk.cell 2
  have L8 : Hid (Below w.heap.size w W) := Lib.hid (by rw [← hW]; exact L7.out.alloc L7.out.size _)
  rw [hW]
  clear hW hblk
  go_loopg [7, 9, 47] 3 (fun g v7 _ v47 wr => wr = W ∧ Ord3 1 1 g v7 v47)
  case atStart => exact ⟨rfl, .inl ⟨rfl, rfl, rfl⟩⟩
  case round =>
    obtain ⟨rfl, h⟩ := hrel
    rcases h with ⟨rfl, rfl, rfl⟩ | ⟨rfl, rfl, rfl⟩ | ⟨rfl, rfl, rfl⟩ | ⟨rfl, rfl, rfl⟩
    · go_wp2_with (fail)
      go_roundg 2
      case measure => omega
      case rel => exact ⟨rfl, .inr (.inl ⟨rfl, rfl, rfl⟩)⟩
    · go_wp2_with (fail)
      go_roundg 1
      case measure => omega
      case rel => exact ⟨rfl, .inr (.inr (.inl ⟨rfl, rfl, rfl⟩))⟩
    · go_wp2_with (fail)
      go_roundg 0
      case measure => omega
      case rel => exact ⟨rfl, .inr (.inr (.inr ⟨rfl, rfl, rfl⟩))⟩
    · clear c0 c1 c2
      by_cases h0 : a.data.toList = [0]
      · have HP := Lib.hid (fun W => Parent_root a HA.out h0 W)
        clear h0
        cases l3
        · cases wi
          · skip
            go_wp2_with (fail)
            refine (H12.out _).mono ?_
            rintro e w9 ⟨rfl, hb⟩
            have L9 := Lib.hid (L8.out.trans (hb.mono L8.out.size))
            clear hb
            go_wp2_with (fail)
            refine (H23.out _).mono ?_
            rintro e w10 ⟨rfl, hb⟩
            have L10 := Lib.hid (L9.out.trans (hb.mono L9.out.size))
            clear hb
            go_wp2_with (fail)
            refine (HP.out _).mono ?_
            rintro e w11 ⟨rfl, hb⟩
            have L11 := Lib.hid (L10.out.trans (hb.mono L10.out.size))
            clear hb
            go_wp2_with (fail)
            refine (HWca.out _).mono ?_
            rintro e w12 ⟨rfl, hb⟩
            have L12 := Lib.hid (L11.out.trans (hb.mono L11.out.size))
            clear hb
            go_wp2_with (fail)
            go_ret
            exact ⟨rfl, L12.out⟩
          · skip
            go_wp2_with (fail)
            refine (H12.out _).mono ?_
            rintro e w9 ⟨rfl, hb⟩
            have L9 := Lib.hid (L8.out.trans (hb.mono L8.out.size))
            clear hb
            go_wp2_with (fail)
            refine (H23.out _).mono ?_
            rintro e w10 ⟨rfl, hb⟩
            have L10 := Lib.hid (L9.out.trans (hb.mono L9.out.size))
            clear hb
            go_wp2_with (fail)
            refine (HP.out _).mono ?_
            rintro e w11 ⟨rfl, hb⟩
            have L11 := Lib.hid (L10.out.trans (hb.mono L10.out.size))
            clear hb
            go_wp2_with (fail)
            refine (HWca.out _).mono ?_
            rintro e w12 ⟨rfl, hb⟩
            have L12 := Lib.hid (L11.out.trans (hb.mono L11.out.size))
            clear hb
            go_wp2_with (fail)
            refine (H12.out _).mono ?_
            rintro e w13 ⟨rfl, hb⟩
            have L13 := Lib.hid (L12.out.trans (hb.mono L12.out.size))
            clear hb
            go_wp2_with (fail)
            refine (H23.out _).mono ?_
            rintro e w14 ⟨rfl, hb⟩
            have L14 := Lib.hid (L13.out.trans (hb.mono L13.out.size))
            clear hb
            go_wp2_with (fail)
            go_ret
            exact ⟨rfl, L14.out⟩
        · cases wi
          · skip
            rw [HT.out H3.out] at H13
            go_wp2_with (fail)
            refine (H12.out _).mono ?_
            rintro e w9 ⟨rfl, hb⟩
            have L9 := Lib.hid (L8.out.trans (hb.mono L8.out.size))
            clear hb
            go_wp2_with (fail)
            refine (H23.out _).mono ?_
            rintro e w10 ⟨rfl, hb⟩
            have L10 := Lib.hid (L9.out.trans (hb.mono L9.out.size))
            clear hb
            go_wp2_with (fail)
            refine (H13.out _).mono ?_
            rintro e w11 ⟨rfl, hb⟩
            have L11 := Lib.hid (L10.out.trans (hb.mono L10.out.size))
            clear hb
            go_wp2_with (fail)
            refine (HP.out _).mono ?_
            rintro e w12 ⟨rfl, hb⟩
            have L12 := Lib.hid (L11.out.trans (hb.mono L11.out.size))
            clear hb
            go_wp2_with (fail)
            refine (HWca.out _).mono ?_
            rintro e w13 ⟨rfl, hb⟩
            have L13 := Lib.hid (L12.out.trans (hb.mono L12.out.size))
            clear hb
            go_wp2_with (fail)
            go_ret
            exact ⟨rfl, L13.out⟩
          · skip
            rw [HT.out H3.out] at H13
            rw [HB.out HW.out H3.out] at HWba
            go_wp2_with (fail)
            refine (H12.out _).mono ?_
            rintro e w9 ⟨rfl, hb⟩
            have L9 := Lib.hid (L8.out.trans (hb.mono L8.out.size))
            clear hb
            go_wp2_with (fail)
            refine (H23.out _).mono ?_
            rintro e w10 ⟨rfl, hb⟩
            have L10 := Lib.hid (L9.out.trans (hb.mono L9.out.size))
            clear hb
            go_wp2_with (fail)
            refine (H13.out _).mono ?_
            rintro e w11 ⟨rfl, hb⟩
            have L11 := Lib.hid (L10.out.trans (hb.mono L10.out.size))
            clear hb
            go_wp2_with (fail)
            refine (HP.out _).mono ?_
            rintro e w12 ⟨rfl, hb⟩
            have L12 := Lib.hid (L11.out.trans (hb.mono L11.out.size))
            clear hb
            go_wp2_with (fail)
            refine (HWca.out _).mono ?_
            rintro e w13 ⟨rfl, hb⟩
            have L13 := Lib.hid (L12.out.trans (hb.mono L12.out.size))
            clear hb
            go_wp2_with (fail)
            refine (H12.out _).mono ?_
            rintro e w14 ⟨rfl, hb⟩
            have L14 := Lib.hid (L13.out.trans (hb.mono L13.out.size))
            clear hb
            go_wp2_with (fail)
            refine (H23.out _).mono ?_
            rintro e w15 ⟨rfl, hb⟩
            have L15 := Lib.hid (L14.out.trans (hb.mono L14.out.size))
            clear hb
            go_wp2_with (fail)
            refine (HWba.out _).mono ?_
            rintro e w16 ⟨rfl, hb⟩
            have L16 := Lib.hid (L15.out.trans (hb.mono L15.out.size))
            clear hb
            go_wp2_with (fail)
            go_ret
            exact ⟨rfl, L16.out⟩
      · have HP := Lib.hid (fun W => Parent_name a HA.out HN.out h0 W)
        obtain ⟨p, hp⟩ : ∃ p : ByteArray, (⟨(parL a.data.toList).toArray⟩ : ByteArray) = p := ⟨_, rfl⟩
        have hpl : p.data.toList = parL a.data.toList := by rw [← hp]
        rw [hp] at HP
        have hps : p.size ≤ maxLen := by
          have h1 : p.data.toList.length ≤ a.data.toList.length := by rw [hpl]; unfold parL; rw [List.length_drop]; omega
          have h2 := HA.out
          simp at h1
          omega
        have HLP := Lib.hid (fun W => Less_any p a hps HA.out W)
        rw [show lessP p.data.toList a.data.toList = true from by rw [hpl]; exact less_par HN.out h0] at HLP
        clear hp hpl hps
        clear h0
        cases l3
        · cases wi
          · skip
            go_wp2_with (fail)
            refine (H12.out _).mono ?_
            rintro e w9 ⟨rfl, hb⟩
            have L9 := Lib.hid (L8.out.trans (hb.mono L8.out.size))
            clear hb
            go_wp2_with (fail)
            refine (H23.out _).mono ?_
            rintro e w10 ⟨rfl, hb⟩
            have L10 := Lib.hid (L9.out.trans (hb.mono L9.out.size))
            clear hb
            go_wp2_with (fail)
            refine (HP.out _).mono ?_
            rintro e w11 ⟨rfl, hb⟩
            have L11 := Lib.hid (L10.out.trans (hb.mono L10.out.size))
            clear hb
            go_wp2_with (fail)
            refine (HLP.out _).mono ?_
            rintro e w12 ⟨rfl, hb⟩
            have L12 := Lib.hid (L11.out.trans (hb.mono L11.out.size))
            clear hb
            go_wp2_with (fail)
            refine (HWca.out _).mono ?_
            rintro e w13 ⟨rfl, hb⟩
            have L13 := Lib.hid (L12.out.trans (hb.mono L12.out.size))
            clear hb
            go_wp2_with (fail)
            go_ret
            exact ⟨rfl, L13.out⟩
          · skip
            go_wp2_with (fail)
            refine (H12.out _).mono ?_
            rintro e w9 ⟨rfl, hb⟩
            have L9 := Lib.hid (L8.out.trans (hb.mono L8.out.size))
            clear hb
            go_wp2_with (fail)
            refine (H23.out _).mono ?_
            rintro e w10 ⟨rfl, hb⟩
            have L10 := Lib.hid (L9.out.trans (hb.mono L9.out.size))
            clear hb
            go_wp2_with (fail)
            refine (HP.out _).mono ?_
            rintro e w11 ⟨rfl, hb⟩
            have L11 := Lib.hid (L10.out.trans (hb.mono L10.out.size))
            clear hb
            go_wp2_with (fail)
            refine (HLP.out _).mono ?_
            rintro e w12 ⟨rfl, hb⟩
            have L12 := Lib.hid (L11.out.trans (hb.mono L11.out.size))
            clear hb
            go_wp2_with (fail)
            refine (HWca.out _).mono ?_
            rintro e w13 ⟨rfl, hb⟩
            have L13 := Lib.hid (L12.out.trans (hb.mono L12.out.size))
            clear hb
            go_wp2_with (fail)
            refine (H12.out _).mono ?_
            rintro e w14 ⟨rfl, hb⟩
            have L14 := Lib.hid (L13.out.trans (hb.mono L13.out.size))
            clear hb
            go_wp2_with (fail)
            refine (H23.out _).mono ?_
            rintro e w15 ⟨rfl, hb⟩
            have L15 := Lib.hid (L14.out.trans (hb.mono L14.out.size))
            clear hb
            go_wp2_with (fail)
            go_ret
            exact ⟨rfl, L15.out⟩
        · cases wi
          · skip
            rw [HT.out H3.out] at H13
            go_wp2_with (fail)
            refine (H12.out _).mono ?_
            rintro e w9 ⟨rfl, hb⟩
            have L9 := Lib.hid (L8.out.trans (hb.mono L8.out.size))
            clear hb
            go_wp2_with (fail)
            refine (H23.out _).mono ?_
            rintro e w10 ⟨rfl, hb⟩
            have L10 := Lib.hid (L9.out.trans (hb.mono L9.out.size))
            clear hb
            go_wp2_with (fail)
            refine (H13.out _).mono ?_
            rintro e w11 ⟨rfl, hb⟩
            have L11 := Lib.hid (L10.out.trans (hb.mono L10.out.size))
            clear hb
            go_wp2_with (fail)
            refine (HP.out _).mono ?_
            rintro e w12 ⟨rfl, hb⟩
            have L12 := Lib.hid (L11.out.trans (hb.mono L11.out.size))
            clear hb
            go_wp2_with (fail)
            refine (HLP.out _).mono ?_
            rintro e w13 ⟨rfl, hb⟩
            have L13 := Lib.hid (L12.out.trans (hb.mono L12.out.size))
            clear hb
            go_wp2_with (fail)
            refine (HWca.out _).mono ?_
            rintro e w14 ⟨rfl, hb⟩
            have L14 := Lib.hid (L13.out.trans (hb.mono L13.out.size))
            clear hb
            go_wp2_with (fail)
            go_ret
            exact ⟨rfl, L14.out⟩
          · skip
            rw [HT.out H3.out] at H13
            rw [HB.out HW.out H3.out] at HWba
            go_wp2_with (fail)
            refine (H12.out _).mono ?_
            rintro e w9 ⟨rfl, hb⟩
            have L9 := Lib.hid (L8.out.trans (hb.mono L8.out.size))
            clear hb
            go_wp2_with (fail)
            refine (H23.out _).mono ?_
            rintro e w10 ⟨rfl, hb⟩
            have L10 := Lib.hid (L9.out.trans (hb.mono L9.out.size))
            clear hb
            go_wp2_with (fail)
            refine (H13.out _).mono ?_
            rintro e w11 ⟨rfl, hb⟩
            have L11 := Lib.hid (L10.out.trans (hb.mono L10.out.size))
            clear hb
            go_wp2_with (fail)
            refine (HP.out _).mono ?_
            rintro e w12 ⟨rfl, hb⟩
            have L12 := Lib.hid (L11.out.trans (hb.mono L11.out.size))
            clear hb
            go_wp2_with (fail)
            refine (HLP.out _).mono ?_
            rintro e w13 ⟨rfl, hb⟩
            have L13 := Lib.hid (L12.out.trans (hb.mono L12.out.size))
            clear hb
            go_wp2_with (fail)
            refine (HWca.out _).mono ?_
            rintro e w14 ⟨rfl, hb⟩
            have L14 := Lib.hid (L13.out.trans (hb.mono L13.out.size))
            clear hb
            go_wp2_with (fail)
            refine (H12.out _).mono ?_
            rintro e w15 ⟨rfl, hb⟩
            have L15 := Lib.hid (L14.out.trans (hb.mono L14.out.size))
            clear hb
            go_wp2_with (fail)
            refine (H23.out _).mono ?_
            rintro e w16 ⟨rfl, hb⟩
            have L16 := Lib.hid (L15.out.trans (hb.mono L15.out.size))
            clear hb
            go_wp2_with (fail)
            refine (HWba.out _).mono ?_
            rintro e w17 ⟨rfl, hb⟩
            have L17 := Lib.hid (L16.out.trans (hb.mono L16.out.size))
            clear hb
            go_wp2_with (fail)
            go_ret
            exact ⟨rfl, L17.out⟩

set_option maxHeartbeats 16000000 in
set_option maxRecDepth 100000 in
theorem order_2 (a b c : ByteArray) (ha : a.size ≤ maxLen) (hb : b.size ≤ maxLen) (hc : c.size ≤ maxLen) (w : World) (hna : isName a.data.toList = true) (hnb : isName b.data.toList = true) (hnc : isName c.data.toList = true)
    (h1 : lessP a.data.toList b.data.toList = false) (h2 : lessP b.data.toList a.data.toList = true) (h3 : sameB a.data.toList b.data.toList = false) :
    Calls Try.prog 9 #[.string a, .string b, .string c] w fun e w' => e = .returned (.bool true) ∧ Below w.heap.size w w' := by
  have HCa := Lib.hid (fun W => Check_any a ha W)
  have HCb := Lib.hid (fun W => Check_any b hb W)
  have HCc := Lib.hid (fun W => Check_any c hc W)
  rw [show chkN a.data.toList = 0 from by unfold chkN; rw [if_pos hna]] at HCa
  rw [show chkN b.data.toList = 0 from by unfold chkN; rw [if_pos hnb]] at HCb
  rw [show chkN c.data.toList = 0 from by unfold chkN; rw [if_pos hnc]] at HCc
  have H12 := Lib.hid (fun W => Less_any a b ha hb W)
  have H21 := Lib.hid (fun W => Less_any b a hb ha W)
  have HS := Lib.hid (fun W => Same_any a b (by unfold maxLen at ha; omega) (by unfold maxLen at hb; omega) W)
  have H23 := Lib.hid (fun W => Less_any b c hb hc W)
  have H13 := Lib.hid (fun W => Less_any a c ha hc W)
  have HWca := Lib.hid (fun W => Within_any c a hc ha W)
  have HWba := Lib.hid (fun W => Within_any b a hb ha W)
  rw [h1] at H12
  rw [h2] at H21
  rw [h3] at HS
  have HN := Lib.hid hna
  have HA := Lib.hid ha
  obtain ⟨l3, hl3⟩ : ∃ l3, lessP b.data.toList c.data.toList = l3 := ⟨_, rfl⟩
  obtain ⟨wi, hwi⟩ : ∃ wi, withinB c.data.toList a.data.toList = wi := ⟨_, rfl⟩
  rw [hl3] at H23
  rw [hwi] at HWca
  have H3 := Lib.hid hl3
  have HW := Lib.hid hwi
  clear hna hnb hnc h1 h2 h3 hb hc hl3 hwi
  have L0 := Lib.hid (Below.refl w.heap.size w)
  go_enter Try.func9, Try.ntmps9
  go_wp2_with (fail)
  refine (lives02 _).mono ?_
  rintro e w1 ⟨rfl, hb⟩
  have L1 := Lib.hid (L0.out.trans (hb.mono L0.out.size))
  clear hb
  go_wp2_with (fail)
  refine (HCa.out _).mono ?_
  rintro e w2 ⟨rfl, hb⟩
  have L2 := Lib.hid (L1.out.trans (hb.mono L1.out.size))
  clear hb
  go_wp2_with (fail)
  refine (HCb.out _).mono ?_
  rintro e w3 ⟨rfl, hb⟩
  have L3 := Lib.hid (L2.out.trans (hb.mono L2.out.size))
  clear hb
  go_wp2_with (fail)
  refine (HCc.out _).mono ?_
  rintro e w4 ⟨rfl, hb⟩
  have L4 := Lib.hid (L3.out.trans (hb.mono L3.out.size))
  clear hb
  go_wp2_with (fail)
  refine (H12.out _).mono ?_
  rintro e w5 ⟨rfl, hb⟩
  have L5 := Lib.hid (L4.out.trans (hb.mono L4.out.size))
  clear hb
  go_wp2_with (fail)
  refine (H21.out _).mono ?_
  rintro e w6 ⟨rfl, hb⟩
  have L6 := Lib.hid (L5.out.trans (hb.mono L5.out.size))
  clear hb
  go_wp2_with (fail)
  refine (HS.out _).mono ?_
  rintro e w7 ⟨rfl, hb⟩
  have L7 := Lib.hid (L6.out.trans (hb.mono L6.out.size))
  clear hb
  go_wp2_with (fail)
  obtain ⟨W, hW⟩ : ∃ W, w7.alloc (.cells #[.bool false, .bool true, .bool false] 4) = W := ⟨_, rfl⟩
  have hblk : Blk W w7.heap.size 4 #[.bool false, .bool true, .bool false] := by rw [← hW]; exact Blk.new w7 _ _
  have c0 := hblk.cell 0
  have c1 := hblk.cell 1
  have c2 := hblk.cell 2
  have L8 : Hid (Below w.heap.size w W) := Lib.hid (by rw [← hW]; exact L7.out.alloc L7.out.size _)
  rw [hW]
  clear hW hblk
  go_loopg [7, 9, 47] 3 (fun g v7 _ v47 wr => wr = W ∧ Ord3 0 1 g v7 v47)
  case atStart => exact ⟨rfl, .inl ⟨rfl, rfl, rfl⟩⟩
  case round =>
    obtain ⟨rfl, h⟩ := hrel
    rcases h with ⟨rfl, rfl, rfl⟩ | ⟨rfl, rfl, rfl⟩ | ⟨rfl, rfl, rfl⟩ | ⟨rfl, rfl, rfl⟩
    · go_wp2_with (fail)
      go_roundg 2
      case measure => omega
      case rel => exact ⟨rfl, .inr (.inl ⟨rfl, rfl, rfl⟩)⟩
    · go_wp2_with (fail)
      go_roundg 1
      case measure => omega
      case rel => exact ⟨rfl, .inr (.inr (.inl ⟨rfl, rfl, rfl⟩))⟩
    · go_wp2_with (fail)
      go_roundg 0
      case measure => omega
      case rel => exact ⟨rfl, .inr (.inr (.inr ⟨rfl, rfl, rfl⟩))⟩
    · clear c0 c1 c2
      by_cases h0 : a.data.toList = [0]
      · have HP := Lib.hid (fun W => Parent_root a HA.out h0 W)
        clear h0
        cases l3
        · cases wi
          · skip
            go_wp2_with (fail)
            refine (H12.out _).mono ?_
            rintro e w9 ⟨rfl, hb⟩
            have L9 := Lib.hid (L8.out.trans (hb.mono L8.out.size))
            clear hb
            go_wp2_with (fail)
            refine (HP.out _).mono ?_
            rintro e w10 ⟨rfl, hb⟩
            have L10 := Lib.hid (L9.out.trans (hb.mono L9.out.size))
            clear hb
            go_wp2_with (fail)
            refine (HWca.out _).mono ?_
            rintro e w11 ⟨rfl, hb⟩
            have L11 := Lib.hid (L10.out.trans (hb.mono L10.out.size))
            clear hb
            go_wp2_with (fail)
            go_ret
            exact ⟨rfl, L11.out⟩
          · skip
            go_wp2_with (fail)
            refine (H12.out _).mono ?_
            rintro e w9 ⟨rfl, hb⟩
            have L9 := Lib.hid (L8.out.trans (hb.mono L8.out.size))
            clear hb
            go_wp2_with (fail)
            refine (HP.out _).mono ?_
            rintro e w10 ⟨rfl, hb⟩
            have L10 := Lib.hid (L9.out.trans (hb.mono L9.out.size))
            clear hb
            go_wp2_with (fail)
            refine (HWca.out _).mono ?_
            rintro e w11 ⟨rfl, hb⟩
            have L11 := Lib.hid (L10.out.trans (hb.mono L10.out.size))
            clear hb
            go_wp2_with (fail)
            refine (H12.out _).mono ?_
            rintro e w12 ⟨rfl, hb⟩
            have L12 := Lib.hid (L11.out.trans (hb.mono L11.out.size))
            clear hb
            go_wp2_with (fail)
            go_ret
            exact ⟨rfl, L12.out⟩
        · cases wi
          · skip
            go_wp2_with (fail)
            refine (H12.out _).mono ?_
            rintro e w9 ⟨rfl, hb⟩
            have L9 := Lib.hid (L8.out.trans (hb.mono L8.out.size))
            clear hb
            go_wp2_with (fail)
            refine (HP.out _).mono ?_
            rintro e w10 ⟨rfl, hb⟩
            have L10 := Lib.hid (L9.out.trans (hb.mono L9.out.size))
            clear hb
            go_wp2_with (fail)
            refine (HWca.out _).mono ?_
            rintro e w11 ⟨rfl, hb⟩
            have L11 := Lib.hid (L10.out.trans (hb.mono L10.out.size))
            clear hb
            go_wp2_with (fail)
            go_ret
            exact ⟨rfl, L11.out⟩
          · skip
            go_wp2_with (fail)
            refine (H12.out _).mono ?_
            rintro e w9 ⟨rfl, hb⟩
            have L9 := Lib.hid (L8.out.trans (hb.mono L8.out.size))
            clear hb
            go_wp2_with (fail)
            refine (HP.out _).mono ?_
            rintro e w10 ⟨rfl, hb⟩
            have L10 := Lib.hid (L9.out.trans (hb.mono L9.out.size))
            clear hb
            go_wp2_with (fail)
            refine (HWca.out _).mono ?_
            rintro e w11 ⟨rfl, hb⟩
            have L11 := Lib.hid (L10.out.trans (hb.mono L10.out.size))
            clear hb
            go_wp2_with (fail)
            refine (H12.out _).mono ?_
            rintro e w12 ⟨rfl, hb⟩
            have L12 := Lib.hid (L11.out.trans (hb.mono L11.out.size))
            clear hb
            go_wp2_with (fail)
            go_ret
            exact ⟨rfl, L12.out⟩
      · have HP := Lib.hid (fun W => Parent_name a HA.out HN.out h0 W)
        obtain ⟨p, hp⟩ : ∃ p : ByteArray, (⟨(parL a.data.toList).toArray⟩ : ByteArray) = p := ⟨_, rfl⟩
        have hpl : p.data.toList = parL a.data.toList := by rw [← hp]
        rw [hp] at HP
        have hps : p.size ≤ maxLen := by
          have h1 : p.data.toList.length ≤ a.data.toList.length := by rw [hpl]; unfold parL; rw [List.length_drop]; omega
          have h2 := HA.out
          simp at h1
          omega
        have HLP := Lib.hid (fun W => Less_any p a hps HA.out W)
        rw [show lessP p.data.toList a.data.toList = true from by rw [hpl]; exact less_par HN.out h0] at HLP
        clear hp hpl hps
        clear h0
        cases l3
        · cases wi
          · skip
            go_wp2_with (fail)
            refine (H12.out _).mono ?_
            rintro e w9 ⟨rfl, hb⟩
            have L9 := Lib.hid (L8.out.trans (hb.mono L8.out.size))
            clear hb
            go_wp2_with (fail)
            refine (HP.out _).mono ?_
            rintro e w10 ⟨rfl, hb⟩
            have L10 := Lib.hid (L9.out.trans (hb.mono L9.out.size))
            clear hb
            go_wp2_with (fail)
            refine (HLP.out _).mono ?_
            rintro e w11 ⟨rfl, hb⟩
            have L11 := Lib.hid (L10.out.trans (hb.mono L10.out.size))
            clear hb
            go_wp2_with (fail)
            refine (HWca.out _).mono ?_
            rintro e w12 ⟨rfl, hb⟩
            have L12 := Lib.hid (L11.out.trans (hb.mono L11.out.size))
            clear hb
            go_wp2_with (fail)
            go_ret
            exact ⟨rfl, L12.out⟩
          · skip
            go_wp2_with (fail)
            refine (H12.out _).mono ?_
            rintro e w9 ⟨rfl, hb⟩
            have L9 := Lib.hid (L8.out.trans (hb.mono L8.out.size))
            clear hb
            go_wp2_with (fail)
            refine (HP.out _).mono ?_
            rintro e w10 ⟨rfl, hb⟩
            have L10 := Lib.hid (L9.out.trans (hb.mono L9.out.size))
            clear hb
            go_wp2_with (fail)
            refine (HLP.out _).mono ?_
            rintro e w11 ⟨rfl, hb⟩
            have L11 := Lib.hid (L10.out.trans (hb.mono L10.out.size))
            clear hb
            go_wp2_with (fail)
            refine (HWca.out _).mono ?_
            rintro e w12 ⟨rfl, hb⟩
            have L12 := Lib.hid (L11.out.trans (hb.mono L11.out.size))
            clear hb
            go_wp2_with (fail)
            refine (H12.out _).mono ?_
            rintro e w13 ⟨rfl, hb⟩
            have L13 := Lib.hid (L12.out.trans (hb.mono L12.out.size))
            clear hb
            go_wp2_with (fail)
            go_ret
            exact ⟨rfl, L13.out⟩
        · cases wi
          · skip
            go_wp2_with (fail)
            refine (H12.out _).mono ?_
            rintro e w9 ⟨rfl, hb⟩
            have L9 := Lib.hid (L8.out.trans (hb.mono L8.out.size))
            clear hb
            go_wp2_with (fail)
            refine (HP.out _).mono ?_
            rintro e w10 ⟨rfl, hb⟩
            have L10 := Lib.hid (L9.out.trans (hb.mono L9.out.size))
            clear hb
            go_wp2_with (fail)
            refine (HLP.out _).mono ?_
            rintro e w11 ⟨rfl, hb⟩
            have L11 := Lib.hid (L10.out.trans (hb.mono L10.out.size))
            clear hb
            go_wp2_with (fail)
            refine (HWca.out _).mono ?_
            rintro e w12 ⟨rfl, hb⟩
            have L12 := Lib.hid (L11.out.trans (hb.mono L11.out.size))
            clear hb
            go_wp2_with (fail)
            go_ret
            exact ⟨rfl, L12.out⟩
          · skip
            go_wp2_with (fail)
            refine (H12.out _).mono ?_
            rintro e w9 ⟨rfl, hb⟩
            have L9 := Lib.hid (L8.out.trans (hb.mono L8.out.size))
            clear hb
            go_wp2_with (fail)
            refine (HP.out _).mono ?_
            rintro e w10 ⟨rfl, hb⟩
            have L10 := Lib.hid (L9.out.trans (hb.mono L9.out.size))
            clear hb
            go_wp2_with (fail)
            refine (HLP.out _).mono ?_
            rintro e w11 ⟨rfl, hb⟩
            have L11 := Lib.hid (L10.out.trans (hb.mono L10.out.size))
            clear hb
            go_wp2_with (fail)
            refine (HWca.out _).mono ?_
            rintro e w12 ⟨rfl, hb⟩
            have L12 := Lib.hid (L11.out.trans (hb.mono L11.out.size))
            clear hb
            go_wp2_with (fail)
            refine (H12.out _).mono ?_
            rintro e w13 ⟨rfl, hb⟩
            have L13 := Lib.hid (L12.out.trans (hb.mono L12.out.size))
            clear hb
            go_wp2_with (fail)
            go_ret
            exact ⟨rfl, L13.out⟩

set_option maxHeartbeats 16000000 in
set_option maxRecDepth 100000 in
theorem order_3 (a b c : ByteArray) (ha : a.size ≤ maxLen) (hb : b.size ≤ maxLen) (hc : c.size ≤ maxLen) (w : World) (hna : isName a.data.toList = true) (hnb : isName b.data.toList = true) (hnc : isName c.data.toList = true)
    (h1 : lessP a.data.toList b.data.toList = false) (h2 : lessP b.data.toList a.data.toList = false) (h3 : sameB a.data.toList b.data.toList = true) :
    Calls Try.prog 9 #[.string a, .string b, .string c] w fun e w' => e = .returned (.bool true) ∧ Below w.heap.size w w' := by
  have HCa := Lib.hid (fun W => Check_any a ha W)
  have HCb := Lib.hid (fun W => Check_any b hb W)
  have HCc := Lib.hid (fun W => Check_any c hc W)
  rw [show chkN a.data.toList = 0 from by unfold chkN; rw [if_pos hna]] at HCa
  rw [show chkN b.data.toList = 0 from by unfold chkN; rw [if_pos hnb]] at HCb
  rw [show chkN c.data.toList = 0 from by unfold chkN; rw [if_pos hnc]] at HCc
  have H12 := Lib.hid (fun W => Less_any a b ha hb W)
  have H21 := Lib.hid (fun W => Less_any b a hb ha W)
  have HS := Lib.hid (fun W => Same_any a b (by unfold maxLen at ha; omega) (by unfold maxLen at hb; omega) W)
  have H23 := Lib.hid (fun W => Less_any b c hb hc W)
  have H13 := Lib.hid (fun W => Less_any a c ha hc W)
  have HWca := Lib.hid (fun W => Within_any c a hc ha W)
  have HWba := Lib.hid (fun W => Within_any b a hb ha W)
  rw [h1] at H12
  rw [h2] at H21
  rw [h3] at HS
  have HN := Lib.hid hna
  have HA := Lib.hid ha
  obtain ⟨l3, hl3⟩ : ∃ l3, lessP b.data.toList c.data.toList = l3 := ⟨_, rfl⟩
  obtain ⟨wi, hwi⟩ : ∃ wi, withinB c.data.toList a.data.toList = wi := ⟨_, rfl⟩
  rw [hl3] at H23
  rw [hwi] at HWca
  have H3 := Lib.hid hl3
  have HW := Lib.hid hwi
  clear hna hnb hnc h1 h2 h3 hb hc hl3 hwi
  have L0 := Lib.hid (Below.refl w.heap.size w)
  go_enter Try.func9, Try.ntmps9
  go_wp2_with (fail)
  refine (lives02 _).mono ?_
  rintro e w1 ⟨rfl, hb⟩
  have L1 := Lib.hid (L0.out.trans (hb.mono L0.out.size))
  clear hb
  go_wp2_with (fail)
  refine (HCa.out _).mono ?_
  rintro e w2 ⟨rfl, hb⟩
  have L2 := Lib.hid (L1.out.trans (hb.mono L1.out.size))
  clear hb
  go_wp2_with (fail)
  refine (HCb.out _).mono ?_
  rintro e w3 ⟨rfl, hb⟩
  have L3 := Lib.hid (L2.out.trans (hb.mono L2.out.size))
  clear hb
  go_wp2_with (fail)
  refine (HCc.out _).mono ?_
  rintro e w4 ⟨rfl, hb⟩
  have L4 := Lib.hid (L3.out.trans (hb.mono L3.out.size))
  clear hb
  go_wp2_with (fail)
  refine (H12.out _).mono ?_
  rintro e w5 ⟨rfl, hb⟩
  have L5 := Lib.hid (L4.out.trans (hb.mono L4.out.size))
  clear hb
  go_wp2_with (fail)
  refine (H21.out _).mono ?_
  rintro e w6 ⟨rfl, hb⟩
  have L6 := Lib.hid (L5.out.trans (hb.mono L5.out.size))
  clear hb
  go_wp2_with (fail)
  refine (HS.out _).mono ?_
  rintro e w7 ⟨rfl, hb⟩
  have L7 := Lib.hid (L6.out.trans (hb.mono L6.out.size))
  clear hb
  go_wp2_with (fail)
  obtain ⟨W, hW⟩ : ∃ W, w7.alloc (.cells #[.bool false, .bool false, .bool true] 4) = W := ⟨_, rfl⟩
  have hblk : Blk W w7.heap.size 4 #[.bool false, .bool false, .bool true] := by rw [← hW]; exact Blk.new w7 _ _
  have c0 := hblk.cell 0
  have c1 := hblk.cell 1
  have c2 := hblk.cell 2
  have L8 : Hid (Below w.heap.size w W) := Lib.hid (by rw [← hW]; exact L7.out.alloc L7.out.size _)
  rw [hW]
  clear hW hblk
  go_loopg [7, 9, 47] 3 (fun g v7 _ v47 wr => wr = W ∧ Ord3 0 0 g v7 v47)
  case atStart => exact ⟨rfl, .inl ⟨rfl, rfl, rfl⟩⟩
  case round =>
    obtain ⟨rfl, h⟩ := hrel
    rcases h with ⟨rfl, rfl, rfl⟩ | ⟨rfl, rfl, rfl⟩ | ⟨rfl, rfl, rfl⟩ | ⟨rfl, rfl, rfl⟩
    · go_wp2_with (fail)
      go_roundg 2
      case measure => omega
      case rel => exact ⟨rfl, .inr (.inl ⟨rfl, rfl, rfl⟩)⟩
    · go_wp2_with (fail)
      go_roundg 1
      case measure => omega
      case rel => exact ⟨rfl, .inr (.inr (.inl ⟨rfl, rfl, rfl⟩))⟩
    · go_wp2_with (fail)
      go_roundg 0
      case measure => omega
      case rel => exact ⟨rfl, .inr (.inr (.inr ⟨rfl, rfl, rfl⟩))⟩
    · clear c0 c1 c2
      by_cases h0 : a.data.toList = [0]
      · have HP := Lib.hid (fun W => Parent_root a HA.out h0 W)
        clear h0
        cases l3
        · cases wi
          · skip
            go_wp2_with (fail)
            refine (H12.out _).mono ?_
            rintro e w9 ⟨rfl, hb⟩
            have L9 := Lib.hid (L8.out.trans (hb.mono L8.out.size))
            clear hb
            go_wp2_with (fail)
            refine (HP.out _).mono ?_
            rintro e w10 ⟨rfl, hb⟩
            have L10 := Lib.hid (L9.out.trans (hb.mono L9.out.size))
            clear hb
            go_wp2_with (fail)
            refine (HWca.out _).mono ?_
            rintro e w11 ⟨rfl, hb⟩
            have L11 := Lib.hid (L10.out.trans (hb.mono L10.out.size))
            clear hb
            go_wp2_with (fail)
            go_ret
            exact ⟨rfl, L11.out⟩
          · skip
            go_wp2_with (fail)
            refine (H12.out _).mono ?_
            rintro e w9 ⟨rfl, hb⟩
            have L9 := Lib.hid (L8.out.trans (hb.mono L8.out.size))
            clear hb
            go_wp2_with (fail)
            refine (HP.out _).mono ?_
            rintro e w10 ⟨rfl, hb⟩
            have L10 := Lib.hid (L9.out.trans (hb.mono L9.out.size))
            clear hb
            go_wp2_with (fail)
            refine (HWca.out _).mono ?_
            rintro e w11 ⟨rfl, hb⟩
            have L11 := Lib.hid (L10.out.trans (hb.mono L10.out.size))
            clear hb
            go_wp2_with (fail)
            refine (H12.out _).mono ?_
            rintro e w12 ⟨rfl, hb⟩
            have L12 := Lib.hid (L11.out.trans (hb.mono L11.out.size))
            clear hb
            go_wp2_with (fail)
            go_ret
            exact ⟨rfl, L12.out⟩
        · cases wi
          · skip
            go_wp2_with (fail)
            refine (H12.out _).mono ?_
            rintro e w9 ⟨rfl, hb⟩
            have L9 := Lib.hid (L8.out.trans (hb.mono L8.out.size))
            clear hb
            go_wp2_with (fail)
            refine (HP.out _).mono ?_
            rintro e w10 ⟨rfl, hb⟩
            have L10 := Lib.hid (L9.out.trans (hb.mono L9.out.size))
            clear hb
            go_wp2_with (fail)
            refine (HWca.out _).mono ?_
            rintro e w11 ⟨rfl, hb⟩
            have L11 := Lib.hid (L10.out.trans (hb.mono L10.out.size))
            clear hb
            go_wp2_with (fail)
            go_ret
            exact ⟨rfl, L11.out⟩
          · skip
            go_wp2_with (fail)
            refine (H12.out _).mono ?_
            rintro e w9 ⟨rfl, hb⟩
            have L9 := Lib.hid (L8.out.trans (hb.mono L8.out.size))
            clear hb
            go_wp2_with (fail)
            refine (HP.out _).mono ?_
            rintro e w10 ⟨rfl, hb⟩
            have L10 := Lib.hid (L9.out.trans (hb.mono L9.out.size))
            clear hb
            go_wp2_with (fail)
            refine (HWca.out _).mono ?_
            rintro e w11 ⟨rfl, hb⟩
            have L11 := Lib.hid (L10.out.trans (hb.mono L10.out.size))
            clear hb
            go_wp2_with (fail)
            refine (H12.out _).mono ?_
            rintro e w12 ⟨rfl, hb⟩
            have L12 := Lib.hid (L11.out.trans (hb.mono L11.out.size))
            clear hb
            go_wp2_with (fail)
            go_ret
            exact ⟨rfl, L12.out⟩
      · have HP := Lib.hid (fun W => Parent_name a HA.out HN.out h0 W)
        obtain ⟨p, hp⟩ : ∃ p : ByteArray, (⟨(parL a.data.toList).toArray⟩ : ByteArray) = p := ⟨_, rfl⟩
        have hpl : p.data.toList = parL a.data.toList := by rw [← hp]
        rw [hp] at HP
        have hps : p.size ≤ maxLen := by
          have h1 : p.data.toList.length ≤ a.data.toList.length := by rw [hpl]; unfold parL; rw [List.length_drop]; omega
          have h2 := HA.out
          simp at h1
          omega
        have HLP := Lib.hid (fun W => Less_any p a hps HA.out W)
        rw [show lessP p.data.toList a.data.toList = true from by rw [hpl]; exact less_par HN.out h0] at HLP
        clear hp hpl hps
        clear h0
        cases l3
        · cases wi
          · skip
            go_wp2_with (fail)
            refine (H12.out _).mono ?_
            rintro e w9 ⟨rfl, hb⟩
            have L9 := Lib.hid (L8.out.trans (hb.mono L8.out.size))
            clear hb
            go_wp2_with (fail)
            refine (HP.out _).mono ?_
            rintro e w10 ⟨rfl, hb⟩
            have L10 := Lib.hid (L9.out.trans (hb.mono L9.out.size))
            clear hb
            go_wp2_with (fail)
            refine (HLP.out _).mono ?_
            rintro e w11 ⟨rfl, hb⟩
            have L11 := Lib.hid (L10.out.trans (hb.mono L10.out.size))
            clear hb
            go_wp2_with (fail)
            refine (HWca.out _).mono ?_
            rintro e w12 ⟨rfl, hb⟩
            have L12 := Lib.hid (L11.out.trans (hb.mono L11.out.size))
            clear hb
            go_wp2_with (fail)
            go_ret
            exact ⟨rfl, L12.out⟩
          · skip
            go_wp2_with (fail)
            refine (H12.out _).mono ?_
            rintro e w9 ⟨rfl, hb⟩
            have L9 := Lib.hid (L8.out.trans (hb.mono L8.out.size))
            clear hb
            go_wp2_with (fail)
            refine (HP.out _).mono ?_
            rintro e w10 ⟨rfl, hb⟩
            have L10 := Lib.hid (L9.out.trans (hb.mono L9.out.size))
            clear hb
            go_wp2_with (fail)
            refine (HLP.out _).mono ?_
            rintro e w11 ⟨rfl, hb⟩
            have L11 := Lib.hid (L10.out.trans (hb.mono L10.out.size))
            clear hb
            go_wp2_with (fail)
            refine (HWca.out _).mono ?_
            rintro e w12 ⟨rfl, hb⟩
            have L12 := Lib.hid (L11.out.trans (hb.mono L11.out.size))
            clear hb
            go_wp2_with (fail)
            refine (H12.out _).mono ?_
            rintro e w13 ⟨rfl, hb⟩
            have L13 := Lib.hid (L12.out.trans (hb.mono L12.out.size))
            clear hb
            go_wp2_with (fail)
            go_ret
            exact ⟨rfl, L13.out⟩
        · cases wi
          · skip
            go_wp2_with (fail)
            refine (H12.out _).mono ?_
            rintro e w9 ⟨rfl, hb⟩
            have L9 := Lib.hid (L8.out.trans (hb.mono L8.out.size))
            clear hb
            go_wp2_with (fail)
            refine (HP.out _).mono ?_
            rintro e w10 ⟨rfl, hb⟩
            have L10 := Lib.hid (L9.out.trans (hb.mono L9.out.size))
            clear hb
            go_wp2_with (fail)
            refine (HLP.out _).mono ?_
            rintro e w11 ⟨rfl, hb⟩
            have L11 := Lib.hid (L10.out.trans (hb.mono L10.out.size))
            clear hb
            go_wp2_with (fail)
            refine (HWca.out _).mono ?_
            rintro e w12 ⟨rfl, hb⟩
            have L12 := Lib.hid (L11.out.trans (hb.mono L11.out.size))
            clear hb
            go_wp2_with (fail)
            go_ret
            exact ⟨rfl, L12.out⟩
          · skip
            go_wp2_with (fail)
            refine (H12.out _).mono ?_
            rintro e w9 ⟨rfl, hb⟩
            have L9 := Lib.hid (L8.out.trans (hb.mono L8.out.size))
            clear hb
            go_wp2_with (fail)
            refine (HP.out _).mono ?_
            rintro e w10 ⟨rfl, hb⟩
            have L10 := Lib.hid (L9.out.trans (hb.mono L9.out.size))
            clear hb
            go_wp2_with (fail)
            refine (HLP.out _).mono ?_
            rintro e w11 ⟨rfl, hb⟩
            have L11 := Lib.hid (L10.out.trans (hb.mono L10.out.size))
            clear hb
            go_wp2_with (fail)
            refine (HWca.out _).mono ?_
            rintro e w12 ⟨rfl, hb⟩
            have L12 := Lib.hid (L11.out.trans (hb.mono L11.out.size))
            clear hb
            go_wp2_with (fail)
            refine (H12.out _).mono ?_
            rintro e w13 ⟨rfl, hb⟩
            have L13 := Lib.hid (L12.out.trans (hb.mono L12.out.size))
            clear hb
            go_wp2_with (fail)
            go_ret
            exact ⟨rfl, L13.out⟩

theorem walkOrder_law (a b c : ByteArray) (ha : a.size ≤ maxLen) (hb : b.size ≤ maxLen) (hc : c.size ≤ maxLen) (w : World) :
    Calls Try.prog 9 #[.string a, .string b, .string c] w fun e w' => e = .returned (.bool true) ∧ Below w.heap.size w w' := by
  by_cases hn : (isName a.data.toList && (isName b.data.toList && isName c.data.toList)) = true
  · simp only [Bool.and_eq_true] at hn
    obtain ⟨h1, h2, h3⟩ := hn
    rcases less_three h1 h2 with ⟨g1, g2, g3⟩ | ⟨g1, g2, g3⟩ | ⟨g1, g2, g3⟩
    · exact order_1 a b c ha hb hc w h1 h2 h3 g1 g2 g3
    · exact order_2 a b c ha hb hc w h1 h2 h3 g1 g2 g3
    · exact order_3 a b c ha hb hc w h1 h2 h3 g1 g2 g3
  · exact order_no a b c ha hb hc w (by simpa using hn)
end Go.Proofs.Ytjhhhkhcnohmiaa
