/- The law TopDepth, walked. -/
import Derived.Test.YtjhhhkhcnohmiaaTree
import Derived.Test.YtjhhhkhcnohmiaaNext2
import Derived.Deep.QuietTactic
import Derived.BigQuiet
import Derived.Deep.DeepCutAuto
import Derived.OwnWalk
import Derived.Outline
namespace Go.Proofs.Ytjhhhkhcnohmiaa
open Go.RowKit

def nmBeg : ByteArray := ⟨#[1, 97, 3, 111, 114, 103, 0]⟩
theorem begins_cnt (w : World) : Calls Try.prog 24 #[.string nmBeg] w fun e w' => e = .returned (.int .i64 2) ∧ Below w.heap.size w w' := by
  have := Count_any nmBeg (by decide) w
  rw [show (namL nmBeg.data.toList).length = 2 by decide] at this
  exact this
set_option maxRecDepth 100000 in
theorem begins_any (w : World) : Calls Try.prog 21 #[] w fun e w' => e = .returned (.bool true) ∧ Below w.heap.size w w' := by
  go_enter Try.func21, Try.ntmps21
  go_wp2_with (fail)
  refine (begins_cnt _).mono ?_
  rintro e w1 ⟨rfl, hb1⟩
  have B1 := Lib.hid hb1
  clear hb1
  go_wp2_with (fail)
  go_ret
  exact ⟨rfl, B1.out⟩

theorem depth_no {l : Bs} (h : isName l = false) : depthN l l = -1 := by unfold depthN; rw [if_neg (by rw [within_no h]; simp)]

set_option maxRecDepth 100000 in
set_option maxHeartbeats 1000000 in
theorem topDepth_no (a : ByteArray) (i j : Int) (ha : a.size ≤ maxLen) (hn : isName a.data.toList = false) (w : World) :
    Calls Try.prog 4 #[.string a, .int .u8 i, .int .u8 j] w fun e w' => e = .returned (.bool true) ∧ Below w.heap.size w w' := by
  have hC := fun W => Check_any a ha W
  rw [show chkN a.data.toList = 2 by unfold chkN; rw [if_neg (by rw [hn]; simp)]] at hC
  have HC := Lib.hid hC
  have hD := fun W => Depth_any a a ha ha W
  rw [depth_no hn] at hD
  have HD := Lib.hid hD
  clear hC hD hn ha
  go_enter Try.func4, Try.ntmps4
  go_wp2_with (fail)
  refine (begins_any _).mono ?_
  rintro e w1 ⟨rfl, hb1⟩
  have B1 := Lib.hid hb1
  clear hb1
  go_wp2_with (fail)
  refine (HC.out _).mono ?_
  rintro e w2 ⟨rfl, hb2⟩
  have B2 := Lib.hid (B1.out.trans (hb2.mono B1.out.size))
  clear hb2 B1
  go_wp2_with (fail)
  refine (HD.out _).mono ?_
  rintro e w3 ⟨rfl, hb3⟩
  have B3 := Lib.hid (B2.out.trans (hb3.mono B2.out.size))
  clear hb3 B2
  go_wp2_with (fail)
  go_ret
  exact ⟨rfl, B3.out⟩

set_option maxRecDepth 100000 in
set_option maxHeartbeats 1000000 in
theorem topDepth_yes (a : ByteArray) (i j : Nat) (hi : i ≤ 255) (hj : j ≤ 255) (ha : a.size ≤ maxLen) (hn : isName a.data.toList = true) (w : World) :
    Calls Try.prog 4 #[.string a, .int .u8 (i : Int), .int .u8 (j : Int)] w fun e w' => e = .returned (.bool true) ∧ Below w.heap.size w w' := by
  have hC := fun W => Check_any a ha W
  rw [show chkN a.data.toList = 0 by unfold chkN; rw [if_pos hn]] at hC
  have HC := Lib.hid hC
  have hN := fun W => Count_any a ha W
  rw [namL_yes hn] at hN
  have hk : (labs a.data.toList).1.length ≤ 255 := by
    have h1 := ((isName_iff _).1 hn).1
    have h2 := labs_length_le a.data.toList
    omega
  obtain ⟨k, hkk⟩ : ∃ k, (labs a.data.toList).1.length = k := ⟨_, rfl⟩
  rw [hkk] at hN hk
  have HN := Lib.hid hN
  have HA := Lib.hid (And.intro ha (And.intro hn hkk))
  clear hC hN hn ha hkk
  go_enter Try.func4, Try.ntmps4
  go_wp2_with (fail)
  refine (begins_any _).mono ?_
  rintro e w1 ⟨rfl, hb1⟩
  have B1 := Lib.hid hb1
  clear hb1
  go_wp2_with (fail)
  refine (HC.out _).mono ?_
  rintro e w2 ⟨rfl, hb2⟩
  have B2 := Lib.hid (B1.out.trans (hb2.mono B1.out.size))
  clear hb2 B1
  go_wp2_with (fail)
  refine (HN.out _).mono ?_
  rintro e w3 ⟨rfl, hb3⟩
  have B3 := Lib.hid (B2.out.trans (hb3.mono B2.out.size))
  clear hb3 B2
  have e1 : IntKind.i64.wrap ((k : Int) + 1) = (k : Int) + 1 := IntWalk.i64_in _ (by omega)
  have e2 : ((k : Int) + 1 == 0) = false := by simp only [beq_eq_false_iff_ne]; omega
  go_wp2_with (fail)
  go_quiet (fail)
  clear e1 e2
  obtain ⟨x0, hx0, hxk⟩ : ∃ x : Nat, (i : Int) % ((k : Int) + 1) = (x : Int) ∧ x ≤ k := ⟨i % (k + 1), by simp, by have := Nat.mod_lt i (show 0 < k + 1 by omega); omega⟩
  obtain ⟨y0, hy0, hyk⟩ : ∃ y : Nat, (j : Int) % ((k : Int) + 1) = (y : Int) ∧ y ≤ k := ⟨j % (k + 1), by simp, by have := Nat.mod_lt j (show 0 < k + 1 by omega); omega⟩
  rw [hx0, hy0]
  clear hx0 hy0 hi hj
  go_upto_region 7 with (fail)
  go_cut [8, 9] (fun s8 s9 wc => ∃ x y : Nat, x ≤ y ∧ y ≤ k ∧ s8 = .int .i64 (x : Int) ∧ s9 = .int .i64 (y : Int) ∧ wc = w3.drewN nq)
  case first =>
    go_wp2_with (fail)
    all_goals
      go_meet
      case rel =>
        first
          | exact ⟨x0, y0, by omega, by omega, rfl, rfl, rfl⟩
          | exact ⟨y0, x0, by omega, by omega, rfl, rfl, rfl⟩
          | exact ⟨x0, x0, by omega, by omega, rfl, rfl, rfl⟩
  case rest =>
    obtain ⟨x, y, hxy, hy, rfl, rfl, rfl⟩ := hcut
    clear hxk hyk
    have hb0 := below_drewN B3.out nq
    generalize w3.drewN nq = w4 at hb0 ⊢
    clear B3
    go_wp2_with (fail)
    go_loopg [10, 11, 47] y (fun g s10 s11 s47 wr => ∃ (m : Nat) (b c : ByteArray), g + m = y ∧ m ≤ y ∧ s47 = .int .i64 (m : Int) ∧ s10 = .string b ∧ s11 = .string c ∧ Aside (c.data.toList = a.data.toList.drop (pos (labs a.data.toList).1 m)) ∧ Aside (b.data.toList = a.data.toList.drop (pos (labs a.data.toList).1 (min m x))) ∧ Aside (Below w.heap.size w wr))
    case atStart => exact ⟨0, a, a, by omega, by omega, rfl, rfl, rfl, (drop_zero_pos _).symm, by show _ = _; rw [Nat.zero_min]; exact (drop_zero_pos _).symm, hb0⟩
    case round =>
      obtain ⟨m, b, c, hg, hm, rfl, rfl, rfl, hc, hb, hw⟩ := hrel
      clear hb0
      obtain ⟨ha, hn, hkk⟩ := HA.out
      have hcs : c.size ≤ maxLen := by
        have := congrArg List.length hc.out
        simp at this
        omega
      have hbs : b.size ≤ maxLen := by
        have := congrArg List.length hb.out
        simp at this
        omega
      have hnc : isName c.data.toList = true := by rw [hc.out]; exact drop_name hn m
      by_cases hlt : m < y
      · have h1 : c.data.toList ≠ [0] := by
          rw [hc.out]; intro e; have := (drop_root hn m).1 e; omega
        have hP := fun W => Parent_name c hcs hnc h1 W
        have hpar : parL c.data.toList = a.data.toList.drop (pos (labs a.data.toList).1 (m + 1)) := by rw [hc.out]; exact drop_par hn (by omega)
        have HP := Lib.hid hP
        have HK := Lib.hid hpar
        have hmy : (m : Int) < (y : Int) := by omega
        have hm2 : (m : Int) + 1 ≤ 9223372036854775807 := by omega
        clear hP h1 hpar hnc hbs hcs hn ha hkk
        by_cases hmx : m < x
        · have hmx1 : (m : Int) < (x : Int) := by omega
          go_wp2_with (fail)
          refine (HP.out _).mono ?_
          rintro e w5 ⟨rfl, hb5⟩
          have B5 := Lib.hid (hw.out.trans (hb5.mono hw.out.size))
          clear hb5
          go_wp2_with (fail)
          go_roundg (y - (m + 1))
          case measure => omega
          case rel =>
            refine ⟨m + 1, ⟨(parL c.data.toList).toArray⟩, ⟨(parL c.data.toList).toArray⟩, by omega, by omega, by go_num, rfl, rfl, HK.out, ?_, B5.out⟩
            show _ = _
            rw [show min (m + 1) x = m + 1 by omega]
            exact HK.out
        · have hmx1 : ¬ (m : Int) < (x : Int) := by omega
          go_wp2_with (fail)
          refine (HP.out _).mono ?_
          rintro e w5 ⟨rfl, hb5⟩
          have B5 := Lib.hid (hw.out.trans (hb5.mono hw.out.size))
          clear hb5
          go_wp2_with (fail)
          go_roundg (y - (m + 1))
          case measure => omega
          case rel =>
            refine ⟨m + 1, b, ⟨(parL c.data.toList).toArray⟩, by omega, by omega, by go_num, rfl, rfl, HK.out, ?_, B5.out⟩
            show _ = _
            rw [show min (m + 1) x = min m x by omega]
            exact hb.out
      · obtain rfl : m = y := by omega
        rw [show min m x = x by omega] at hb
        have hb' := hb.out
        have hc' := hc.out
        have hD1 := fun W => Depth_any a c ha hcs W
        have hD2 := fun W => Depth_any a b ha hbs W
        have hD3 := fun W => Depth_any b c hbs hcs W
        have e1 : depthN a.data.toList c.data.toList = (m : Int) := by
          have := depth_drop hn (Nat.zero_le m) (by omega)
          rw [drop_zero_pos, ← hc'] at this
          rw [this]; simp
        have e2 : depthN a.data.toList b.data.toList = (x : Int) := by
          have := depth_drop hn (Nat.zero_le x) (by omega)
          rw [drop_zero_pos, ← hb'] at this
          rw [this]; simp
        have e3 : depthN b.data.toList c.data.toList = (m : Int) - (x : Int) := by
          have := depth_drop hn hxy (by omega)
          rw [← hc', ← hb'] at this
          exact this
        rw [e1] at hD1
        rw [e2] at hD2
        rw [e3] at hD3
        have HD1 := Lib.hid hD1
        have HD2 := Lib.hid hD2
        have HD3 := Lib.hid hD3
        have hlt1 : ¬ (m : Int) < (m : Int) := by omega
        have b1 : -9223372036854775808 ≤ (m : Int) - (x : Int) := by omega
        have b2 : (m : Int) - (x : Int) ≤ 9223372036854775807 := by omega
        have HB := Lib.hid hb
        rcases Nat.eq_zero_or_pos m with hm0 | hm0
        · subst hm0
          have HNx := Lib.hid (fun W => Next_none c a ha hcs hn hnc (by rw [e1]; decide) W)
          clear hD1 hD2 hD3 e1 e2 e3 hb' hc' hn hnc ha hcs hbs hb hc hkk
          go_wp2_with (fail)
          refine (HD1.out _).mono ?_
          rintro e w5 ⟨rfl, hb5⟩
          have B5 := Lib.hid (hw.out.trans (hb5.mono hw.out.size))
          clear hb5
          go_wp2_with (fail)
          refine (HD2.out _).mono ?_
          rintro e w6 ⟨rfl, hb6⟩
          have B6 := Lib.hid (B5.out.trans (hb6.mono B5.out.size))
          clear hb6
          go_wp2_with (fail)
          refine (HD3.out _).mono ?_
          rintro e w7 ⟨rfl, hb7⟩
          have B7 := Lib.hid (B6.out.trans (hb7.mono B6.out.size))
          clear hb7
          go_wp2_with (fail)
          refine (HNx.out _).mono ?_
          rintro e w8 ⟨rfl, hb8⟩
          have B8 := Lib.hid (B7.out.trans (hb8.mono B7.out.size))
          clear hb8
          go_wp2_with (fail)
          go_ret
          exact ⟨rfl, B8.out⟩
        · obtain ⟨d, hd⟩ : ∃ d : ByteArray, (⟨(a.data.toList.drop (pos (labs a.data.toList).1 (m - 1))).toArray⟩ : ByteArray) = d := ⟨_, rfl⟩
          have hd' : d.data.toList = a.data.toList.drop (pos (labs a.data.toList).1 (m - 1)) := by rw [← hd]
          have hds : d.size ≤ maxLen := by
            have := congrArg List.length hd'
            simp at this
            omega
          have hNx := fun W => Next_yes c a ha hcs hn hnc (m - 1) (by rw [e1]; omega) (by omega) W
          rw [hd] at hNx
          have hD4 := fun W => Depth_any d c hds hcs W
          have e4 : depthN d.data.toList c.data.toList = 1 := by
            have := depth_drop hn (show m - 1 ≤ m by omega) (by omega)
            rw [← hc', ← hd'] at this
            rw [this]; omega
          rw [e4] at hD4
          have hW := fun W => Within_any a d ha hds W
          rw [show withinB a.data.toList d.data.toList = true by
            have := within_drop hn (Nat.zero_le (m - 1))
            rw [drop_zero_pos, ← hd'] at this
            exact this] at hW
          have HD4 := Lib.hid hD4
          have HW := Lib.hid hW
          have HNx := Lib.hid hNx
          have hmp : (0 : Int) < (m : Int) := by omega
          clear hD1 hD2 hD3 hD4 hW hNx e1 e2 e3 e4 hb' hc' hd hd' hds hn hnc ha hcs hbs hb hc hkk
          go_wp2_with (fail)
          refine (HD1.out _).mono ?_
          rintro e w5 ⟨rfl, hb5⟩
          have B5 := Lib.hid (hw.out.trans (hb5.mono hw.out.size))
          clear hb5
          go_wp2_with (fail)
          refine (HD2.out _).mono ?_
          rintro e w6 ⟨rfl, hb6⟩
          have B6 := Lib.hid (B5.out.trans (hb6.mono B5.out.size))
          clear hb6
          go_wp2_with (fail)
          refine (HD3.out _).mono ?_
          rintro e w7 ⟨rfl, hb7⟩
          have B7 := Lib.hid (B6.out.trans (hb7.mono B6.out.size))
          clear hb7
          go_wp2_with (fail)
          refine (HNx.out _).mono ?_
          rintro e w8 ⟨rfl, hb8⟩
          have B8 := Lib.hid (B7.out.trans (hb8.mono B7.out.size))
          clear hb8
          go_wp2_with (fail)
          refine (HD4.out _).mono ?_
          rintro e w9 ⟨rfl, hb9⟩
          have B9 := Lib.hid (B8.out.trans (hb9.mono B8.out.size))
          clear hb9
          go_wp2_with (fail)
          refine (HW.out _).mono ?_
          rintro e w10 ⟨rfl, hb10⟩
          have B10 := Lib.hid (B9.out.trans (hb10.mono B9.out.size))
          clear hb10
          go_wp2_with (fail)
          go_ret
          exact ⟨rfl, B10.out⟩

theorem topDepth_law (a : ByteArray) (i j : Int) (ha : a.size ≤ maxLen) (hi : 0 ≤ i ∧ i ≤ 255) (hj : 0 ≤ j ∧ j ≤ 255) (w : World) :
    Calls Try.prog 4 #[.string a, .int .u8 i, .int .u8 j] w fun e w' => e = .returned (.bool true) ∧ Below w.heap.size w w' := by
  obtain ⟨x, rfl⟩ := Int.eq_ofNat_of_zero_le hi.1
  obtain ⟨y, rfl⟩ := Int.eq_ofNat_of_zero_le hj.1
  cases hn : isName a.data.toList
  · exact topDepth_no a _ _ ha hn w
  · exact topDepth_yes a x y (by omega) (by omega) ha hn w
end Go.Proofs.Ytjhhhkhcnohmiaa
