/- The walk of hardtacklaw01.LabelUp. -/
import Derived.Test.YtjhhhkhcnohmiaaLives01
import Derived.Test.YtjhhhkhcnohmiaaTree
namespace Go.Proofs.Ytjhhhkhcnohmiaa
open Go.RowKit Go.Lib

set_option maxHeartbeats 8000000 in
set_option maxRecDepth 100000 in
theorem labelUp_law (a b : ByteArray) (ha : a.size ≤ maxLen) (hb : b.size ≤ maxLen) (w : World) :
    Calls Try.prog 6 #[.string a, .string b] w fun e w' => e = .returned (.bool true) ∧ Below w.heap.size w w' := by
  have HCa := Lib.hid (fun W => Check_any a ha W)
  have HCb := Lib.hid (fun W => Check_any b hb W)
  have HNb := Lib.hid (fun W => Count_any b hb W)
  have HWab := Lib.hid (fun W => Within_any a b ha hb W)
  rcases chk_cases b.data.toList with ⟨hb1, hb2⟩ | ⟨hb1, hb2⟩
  · by_cases h0 : b.data.toList = [0]
    · have HP := Lib.hid (fun W => Parent_root b hb h0 W)
      have hz : (namL b.data.toList).length = 0 := by rw [namL_yes hb1, h0, root_labs]; rfl
      rw [hz] at HNb
      rw [hb2] at HCb
      rcases chk_cases a.data.toList with ⟨ha1, ha2⟩ | ⟨ha1, ha2⟩
      · rw [ha2] at HCa
        have hw : withinB a.data.toList b.data.toList = true := by rw [h0]; exact within_root ha1
        rw [hw] at HWab
        clear ha hb hb1 hb2 hz ha1 ha2 h0 hw
        go_enter Try.func6, Try.ntmps6
        go_wp2_with (fail)
        refine (lives01 _).mono ?_
        rintro e w1 ⟨rfl, hb⟩
        have L1 := Lib.hid hb
        clear hb
        go_wp2_with (fail)
        refine (HP.out _).mono ?_
        rintro e w2 ⟨rfl, hb⟩
        have L2 := Lib.hid (L1.out.trans (hb.mono L1.out.size))
        clear hb
        go_wp2_with (fail)
        refine (HNb.out _).mono ?_
        rintro e w3 ⟨rfl, hb⟩
        have L3 := Lib.hid (L2.out.trans (hb.mono L2.out.size))
        clear hb
        go_wp2_with (fail)
        refine (HCa.out _).mono ?_
        rintro e w4 ⟨rfl, hb⟩
        have L4 := Lib.hid (L3.out.trans (hb.mono L3.out.size))
        clear hb
        go_wp2_with (fail)
        refine (HCb.out _).mono ?_
        rintro e w5 ⟨rfl, hb⟩
        have L5 := Lib.hid (L4.out.trans (hb.mono L4.out.size))
        clear hb
        go_wp2_with (fail)
        refine (HWab.out _).mono ?_
        rintro e w6 ⟨rfl, hb⟩
        have L6 := Lib.hid (L5.out.trans (hb.mono L5.out.size))
        clear hb
        go_wp2_with (fail)
        go_ret
        exact ⟨rfl, L6.out⟩
      · rw [ha2] at HCa
        clear ha hb hb1 hb2 hz ha1 ha2 h0 HWab
        go_enter Try.func6, Try.ntmps6
        go_wp2_with (fail)
        refine (lives01 _).mono ?_
        rintro e w1 ⟨rfl, hb⟩
        have L1 := Lib.hid hb
        clear hb
        go_wp2_with (fail)
        refine (HP.out _).mono ?_
        rintro e w2 ⟨rfl, hb⟩
        have L2 := Lib.hid (L1.out.trans (hb.mono L1.out.size))
        clear hb
        go_wp2_with (fail)
        refine (HNb.out _).mono ?_
        rintro e w3 ⟨rfl, hb⟩
        have L3 := Lib.hid (L2.out.trans (hb.mono L2.out.size))
        clear hb
        go_wp2_with (fail)
        refine (HCa.out _).mono ?_
        rintro e w4 ⟨rfl, hb⟩
        have L4 := Lib.hid (L3.out.trans (hb.mono L3.out.size))
        clear hb
        go_wp2_with (fail)
        go_ret
        exact ⟨rfl, L4.out⟩
    · have HP := Lib.hid (fun W => Parent_name b hb hb1 h0 W)
      obtain ⟨p, hp⟩ : ∃ p : ByteArray, (⟨(parL b.data.toList).toArray⟩ : ByteArray) = p := ⟨_, rfl⟩
      have hpl : p.data.toList = parL b.data.toList := by rw [← hp]
      rw [hp] at HP
      have hps : p.size ≤ maxLen := by
        have h1 : p.data.toList.length ≤ b.data.toList.length := by rw [hpl]; unfold parL; rw [List.length_drop]; omega
        simp at h1
        omega
      have HNp := Lib.hid (fun W => Count_any p hps W)
      have HWbp := Lib.hid (fun W => Within_any b p hb hps W)
      have HWpb := Lib.hid (fun W => Within_any p b hps hb W)
      have HWap := Lib.hid (fun W => Within_any a p ha hps W)
      have HNa := Lib.hid (fun W => Count_any a ha W)
      have HW0 := Lib.hid (fun W => Within_any a ⟨#[0]⟩ ha (by decide) W)
      have hbp : withinB b.data.toList p.data.toList = true := by rw [hpl]; exact within_par hb1 h0
      have hpb : withinB p.data.toList b.data.toList = false := by rw [hpl]; exact par_within hb1 h0
      have hpn : isName p.data.toList = true := by rw [hpl]; exact parL_name hb1 h0
      have hcnt : (namL b.data.toList).length = (namL p.data.toList).length + 1 := by
        rw [namL_yes hb1, namL_yes hpn, hpl, parL_namL hb1 h0, List.length_drop]
        have := name_first hb1 h0
        omega
      obtain ⟨n, hn⟩ : ∃ n, (namL p.data.toList).length = n := ⟨_, rfl⟩
      rw [hn] at HNp hcnt
      rw [hcnt] at HNb
      rw [hbp] at HWbp
      rw [hpb] at HWpb
      have hnI : (n : Int) + 1 ≤ 9223372036854775807 := by
        have h1 := namL_length_le b.data.toList
        simp at h1
        unfold maxLen at hb
        omega
      have hn0 : ((n + 1 : Nat) : Int) = (n : Int) + 1 := by omega
      cases hab : withinB a.data.toList b.data.toList with
      | false =>
        rw [hab] at HWab
        rcases chk_cases a.data.toList with ⟨ha1, ha2⟩ | ⟨ha1, ha2⟩
        · rw [ha2] at HCa
          rw [show withinB a.data.toList (⟨#[0]⟩ : ByteArray).data.toList = true from within_root ha1] at HW0
          have HN0 := Lib.hid hn0
          rw [hn0] at HNb
          clear ha hb hb1 hb2 ha1 ha2 h0 hp hpl hps hbp hpb hpn hcnt hn hn0 hab
          go_enter Try.func6, Try.ntmps6
          go_wp2_with (fail)
          refine (lives01 _).mono ?_
          rintro e w1 ⟨rfl, hb⟩
          have L1 := Lib.hid hb
          clear hb
          go_wp2_with (fail)
          refine (HP.out _).mono ?_
          rintro e w2 ⟨rfl, hb⟩
          have L2 := Lib.hid (L1.out.trans (hb.mono L1.out.size))
          clear hb
          go_wp2_with (fail)
          refine (HNb.out _).mono ?_
          rintro e w3 ⟨rfl, hb⟩
          have L3 := Lib.hid (L2.out.trans (hb.mono L2.out.size))
          clear hb
          go_wp2_with (fail)
          refine (HNp.out _).mono ?_
          rintro e w4 ⟨rfl, hb⟩
          have L4 := Lib.hid (L3.out.trans (hb.mono L3.out.size))
          clear hb
          go_wp2_with (fail)
          refine (HWbp.out _).mono ?_
          rintro e w5 ⟨rfl, hb⟩
          have L5 := Lib.hid (L4.out.trans (hb.mono L4.out.size))
          clear hb
          go_wp2_with (fail)
          refine (HWpb.out _).mono ?_
          rintro e w6 ⟨rfl, hb⟩
          have L6 := Lib.hid (L5.out.trans (hb.mono L5.out.size))
          clear hb
          go_wp2_with (fail)
          refine (HWab.out _).mono ?_
          rintro e w7 ⟨rfl, hb⟩
          have L7 := Lib.hid (L6.out.trans (hb.mono L6.out.size))
          clear hb
          go_wp2_with (fail)
          refine (HCa.out _).mono ?_
          rintro e w8 ⟨rfl, hb⟩
          have L8 := Lib.hid (L7.out.trans (hb.mono L7.out.size))
          clear hb
          go_wp2_with (fail)
          refine (HW0.out _).mono ?_
          rintro e w9 ⟨rfl, hb⟩
          have L9 := Lib.hid (L8.out.trans (hb.mono L8.out.size))
          clear hb
          go_wp2_with (fail)
          go_ret
          exact ⟨rfl, L9.out⟩
        · rw [ha2] at HCa
          rw [hn0] at HNb
          clear ha hb hb1 hb2 ha1 ha2 h0 hp hpl hps hbp hpb hpn hcnt hn hn0 hab
          go_enter Try.func6, Try.ntmps6
          go_wp2_with (fail)
          refine (lives01 _).mono ?_
          rintro e w1 ⟨rfl, hb⟩
          have L1 := Lib.hid hb
          clear hb
          go_wp2_with (fail)
          refine (HP.out _).mono ?_
          rintro e w2 ⟨rfl, hb⟩
          have L2 := Lib.hid (L1.out.trans (hb.mono L1.out.size))
          clear hb
          go_wp2_with (fail)
          refine (HNb.out _).mono ?_
          rintro e w3 ⟨rfl, hb⟩
          have L3 := Lib.hid (L2.out.trans (hb.mono L2.out.size))
          clear hb
          go_wp2_with (fail)
          refine (HNp.out _).mono ?_
          rintro e w4 ⟨rfl, hb⟩
          have L4 := Lib.hid (L3.out.trans (hb.mono L3.out.size))
          clear hb
          go_wp2_with (fail)
          refine (HWbp.out _).mono ?_
          rintro e w5 ⟨rfl, hb⟩
          have L5 := Lib.hid (L4.out.trans (hb.mono L4.out.size))
          clear hb
          go_wp2_with (fail)
          refine (HWpb.out _).mono ?_
          rintro e w6 ⟨rfl, hb⟩
          have L6 := Lib.hid (L5.out.trans (hb.mono L5.out.size))
          clear hb
          go_wp2_with (fail)
          refine (HWab.out _).mono ?_
          rintro e w7 ⟨rfl, hb⟩
          have L7 := Lib.hid (L6.out.trans (hb.mono L6.out.size))
          clear hb
          go_wp2_with (fail)
          refine (HCa.out _).mono ?_
          rintro e w8 ⟨rfl, hb⟩
          have L8 := Lib.hid (L7.out.trans (hb.mono L7.out.size))
          clear hb
          go_wp2_with (fail)
          go_ret
          exact ⟨rfl, L8.out⟩
      | true =>
        rw [hab] at HWab
        have ha1 : isName a.data.toList = true := ((within_iff _ _).1 hab).1
        have ha2 : chkN a.data.toList = 0 := by unfold chkN; rw [if_pos ha1]
        rw [ha2] at HCa
        rw [show withinB a.data.toList (⟨#[0]⟩ : ByteArray).data.toList = true from within_root ha1] at HW0
        rw [within_trans hab hbp] at HWap
        have hle : n + 1 ≤ (namL a.data.toList).length := by
          have h1 := within_len hab
          rw [namL_yes hb1] at hcnt
          rw [namL_yes ha1]
          omega
        obtain ⟨k, hk⟩ : ∃ k, (namL a.data.toList).length = k := ⟨_, rfl⟩
        rw [hk] at hle HNa
        have hkI : (n : Int) + 1 ≤ (k : Int) := by omega
        rw [hn0] at HNb
        clear ha hb hb1 hb2 ha1 ha2 h0 hp hpl hps hbp hpb hpn hcnt hn hn0 hab hle hk
        go_enter Try.func6, Try.ntmps6
        go_wp2_with (fail)
        refine (lives01 _).mono ?_
        rintro e w1 ⟨rfl, hb⟩
        have L1 := Lib.hid hb
        clear hb
        go_wp2_with (fail)
        refine (HP.out _).mono ?_
        rintro e w2 ⟨rfl, hb⟩
        have L2 := Lib.hid (L1.out.trans (hb.mono L1.out.size))
        clear hb
        go_wp2_with (fail)
        refine (HNb.out _).mono ?_
        rintro e w3 ⟨rfl, hb⟩
        have L3 := Lib.hid (L2.out.trans (hb.mono L2.out.size))
        clear hb
        go_wp2_with (fail)
        refine (HNp.out _).mono ?_
        rintro e w4 ⟨rfl, hb⟩
        have L4 := Lib.hid (L3.out.trans (hb.mono L3.out.size))
        clear hb
        go_wp2_with (fail)
        refine (HWbp.out _).mono ?_
        rintro e w5 ⟨rfl, hb⟩
        have L5 := Lib.hid (L4.out.trans (hb.mono L4.out.size))
        clear hb
        go_wp2_with (fail)
        refine (HWpb.out _).mono ?_
        rintro e w6 ⟨rfl, hb⟩
        have L6 := Lib.hid (L5.out.trans (hb.mono L5.out.size))
        clear hb
        go_wp2_with (fail)
        refine (HWab.out _).mono ?_
        rintro e w7 ⟨rfl, hb⟩
        have L7 := Lib.hid (L6.out.trans (hb.mono L6.out.size))
        clear hb
        go_wp2_with (fail)
        refine (HWap.out _).mono ?_
        rintro e w8 ⟨rfl, hb⟩
        have L8 := Lib.hid (L7.out.trans (hb.mono L7.out.size))
        clear hb
        go_wp2_with (fail)
        refine (HNa.out _).mono ?_
        rintro e w9 ⟨rfl, hb⟩
        have L9 := Lib.hid (L8.out.trans (hb.mono L8.out.size))
        clear hb
        go_wp2_with (fail)
        refine (HNb.out _).mono ?_
        rintro e w10 ⟨rfl, hb⟩
        have L10 := Lib.hid (L9.out.trans (hb.mono L9.out.size))
        clear hb
        go_wp2_with (fail)
        refine (HCa.out _).mono ?_
        rintro e w11 ⟨rfl, hb⟩
        have L11 := Lib.hid (L10.out.trans (hb.mono L10.out.size))
        clear hb
        go_wp2_with (fail)
        refine (HW0.out _).mono ?_
        rintro e w12 ⟨rfl, hb⟩
        have L12 := Lib.hid (L11.out.trans (hb.mono L11.out.size))
        clear hb
        go_wp2_with (fail)
        go_ret
        exact ⟨rfl, L12.out⟩
  · have HP := Lib.hid (fun W => Parent_no b hb hb1 W)
    have hz : (namL b.data.toList).length = 0 := by rw [namL_no hb1]; rfl
    rw [hz] at HNb
    rw [hb2] at HCb
    rcases chk_cases a.data.toList with ⟨ha1, ha2⟩ | ⟨ha1, ha2⟩
    · rw [ha2] at HCa
      clear ha hb hb1 hb2 hz ha1 ha2 HWab
      go_enter Try.func6, Try.ntmps6
      go_wp2_with (fail)
      refine (lives01 _).mono ?_
      rintro e w1 ⟨rfl, hb⟩
      have L1 := Lib.hid hb
      clear hb
      go_wp2_with (fail)
      refine (HP.out _).mono ?_
      rintro e w2 ⟨rfl, hb⟩
      have L2 := Lib.hid (L1.out.trans (hb.mono L1.out.size))
      clear hb
      go_wp2_with (fail)
      refine (HNb.out _).mono ?_
      rintro e w3 ⟨rfl, hb⟩
      have L3 := Lib.hid (L2.out.trans (hb.mono L2.out.size))
      clear hb
      go_wp2_with (fail)
      refine (HCa.out _).mono ?_
      rintro e w4 ⟨rfl, hb⟩
      have L4 := Lib.hid (L3.out.trans (hb.mono L3.out.size))
      clear hb
      go_wp2_with (fail)
      refine (HCb.out _).mono ?_
      rintro e w5 ⟨rfl, hb⟩
      have L5 := Lib.hid (L4.out.trans (hb.mono L4.out.size))
      clear hb
      go_wp2_with (fail)
      go_ret
      exact ⟨rfl, L5.out⟩
    · rw [ha2] at HCa
      clear ha hb hb1 hb2 hz ha1 ha2 HWab
      go_enter Try.func6, Try.ntmps6
      go_wp2_with (fail)
      refine (lives01 _).mono ?_
      rintro e w1 ⟨rfl, hb⟩
      have L1 := Lib.hid hb
      clear hb
      go_wp2_with (fail)
      refine (HP.out _).mono ?_
      rintro e w2 ⟨rfl, hb⟩
      have L2 := Lib.hid (L1.out.trans (hb.mono L1.out.size))
      clear hb
      go_wp2_with (fail)
      refine (HNb.out _).mono ?_
      rintro e w3 ⟨rfl, hb⟩
      have L3 := Lib.hid (L2.out.trans (hb.mono L2.out.size))
      clear hb
      go_wp2_with (fail)
      refine (HCa.out _).mono ?_
      rintro e w4 ⟨rfl, hb⟩
      have L4 := Lib.hid (L3.out.trans (hb.mono L3.out.size))
      clear hb
      go_wp2_with (fail)
      go_ret
      exact ⟨rfl, L4.out⟩
end Go.Proofs.Ytjhhhkhcnohmiaa
