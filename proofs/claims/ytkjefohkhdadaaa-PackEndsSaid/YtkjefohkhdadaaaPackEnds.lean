/- The walk of hardtacklaw03.PackEnds: whatever bytes there are, and wherever a name is read, it is one, or the reader is bad. Conditions: none. -/
import Derived.Test.YtkjefohkhdadaaaLives03
namespace Go.Proofs.Ytkjefohkhdadaaa
open Go.RowKit Go.Lib

theorem rNum1_bad {w : World} {b : Nat} {s : ByteArray} {at' : Nat} (h : Rd w b s at' true) : Calls Try.prog 24 #[.pointer (some ⟨b, 0, none⟩), .int .i64 1] w fun e w' => e = .returned (.int .u64 0) ∧ w = w' := by
  have := rNum_bad h 1 (.inl rfl)
  exact this.mono fun e w' h => by simpa using h
theorem nread_part (l : Bs) (a q : Nat) (h : isName (nread l a).1 = true) : isName (nread (l.take q) a).1 = false ∨ nread (l.take q) a = nread l a :=
  nrun_part l (l.take q) (List.take_prefix _ _) (401 + a) [] a a none (fun x hx => by cases hx) h
theorem nread_behind (l : Bs) (a q : Nat) (h : (nread l a).2 = some q) : a < q ∧ q ≤ l.length :=
  nrun_behind l (401 + a) [] a a none a (fun _ => Nat.le_refl _) (fun q hq => by cases hq) q h
theorem But.rd {b g : Nat} {u v : World} (h : But b u v) {s : ByteArray} {a : Nat} {bad : Bool} (hR : Rd u g s a bad) (hg : g ≠ b) : Rd v g s a bad := But.blk h hR hg

set_option maxRecDepth 100000 in
set_option maxHeartbeats 16000000 in
theorem packEnds_law (s : ByteArray) (at' : Int) (_hs : s.size ≤ maxLen) (ha : -9223372036854775808 ≤ at' ∧ at' ≤ 9223372036854775807) (w : World) :
    Calls Try.prog 4 #[.string s, .int .i64 at'] w fun e w' => e = .returned (.bool true) ∧ Below w.heap.size w w' := by
  have HL := Lib.hid (lives03 w)
  have HA := Lib.hid ha
  clear ha
  go_enter Try.func4, Try.ntmps4
  go_wp2_with (fail)
  with_reducible refine HL.out.mono ?_
  rintro e w1 ⟨rfl, hb⟩
  have B1 := Lib.hid hb
  clear hb HL
  by_cases hbig : 131072 < s.size
  · have hI : (131072 : Int) < (s.size : Int) := by omega
    clear hbig
    go_wp2_with (fail)
    go_ret
    exact ⟨rfl, B1.out⟩
  · have hI : ¬ (131072 : Int) < (s.size : Int) := by omega
    have hml : s.size ≤ maxLen := by unfold maxLen; omega
    have hm47 : s.size ≤ 140737488355328 := by omega
    have HM := Lib.hid (And.intro hml (And.intro hm47 hbig))
    have HO := Lib.hid (rOpen_any s w1)
    clear hml hm47 hbig
    go_wp2_with (fail)
    with_reducible refine HO.out.mono ?_
    rintro e w2 ⟨rfl, h, hb⟩
    obtain ⟨rb, hrb⟩ : ∃ rb, w1.heap.size = rb := ⟨_, rfl⟩
    rw [hrb] at h hb ⊢
    have hrw : w.heap.size ≤ rb := by rw [← hrb]; exact B1.out.size
    have B2 := Lib.hid (And.intro (B1.out.trans (hb.mono hrw)) hrw)
    clear hb HO hrb hrw
    by_cases hat : 0 ≤ at' ∧ at' ≤ (s.size : Int)
    · obtain ⟨n, rfl⟩ : ∃ n : Nat, at' = (n : Int) := ⟨at'.toNat, by omega⟩
      have hns : n ≤ s.size := by omega
      have HR := Lib.hid (rRaw_yes h n HM.out.1 (by omega))
      clear hat h
      go_wp2_with (fail)
      with_reducible refine HR.out.mono ?_
      rintro e w3 ⟨rfl, h, hk⟩
      rw [Nat.zero_add] at h
      have B3 := Lib.hid (B2.out.1.trans (But.below hk B2.out.2 B2.out.1.size))
      have HBD := Lib.hid (rBad_any h)
      have HNA := Lib.hid (rName_any h HM.out.2.1 hns)
      clear h hk HR
      go_wp2_with (fail)
      with_reducible refine HBD.out.mono ?_
      rintro e wz ⟨rfl, rfl⟩
      go_wp2_with (fail)
      with_reducible refine HNA.out.mono ?_
      rintro e w4 hp
      clear HBD HNA
      rcases hp with ⟨hn, q, hq, rfl, h, hk⟩ | ⟨hn, rfl, h, hk⟩
      · obtain ⟨nm, hnm⟩ : ∃ nm, (nread s.data.toList n).1 = nm := ⟨_, rfl⟩
        have hqb := nread_behind _ _ _ hq
        have hsl : s.data.toList.length = s.size := by simp
        rw [hsl] at hqb
        have hpt := nread_part s.data.toList n q hn
        rw [hnm] at hn ⊢
        obtain ⟨N, hN⟩ : ∃ N : ByteArray, (⟨nm.toArray⟩ : ByteArray) = N := ⟨_, rfl⟩
        have hNd : N.data.toList = nm := by subst hN; rfl
        rw [hN]
        obtain ⟨d, rfl⟩ : ∃ d, q = n + d := ⟨q - n, by omega⟩
        have HCK := Lib.hid (fun W => rCheck_any N (by
          have : nm.length ≤ 255 := ((isName_iff _).1 hn).1
          have h2 : N.data.toList.length = N.size := by simp
          rw [hNd] at h2
          unfold maxLen; omega) W)
        have hck : chkN N.data.toList = 0 := by rw [hNd]; unfold chkN; rw [if_pos hn]
        rw [hck] at HCK
        have B4 := Lib.hid (And.intro (B3.out.trans (But.below hk B2.out.2 B3.out.size)) h)
        have HBD := Lib.hid (rBad_any h)
        have HD := Lib.hid (And.intro hnm (And.intro hn (And.intro hq (And.intro hpt (And.intro hqb (And.intro hN hNd))))))
        clear hk h hn hq hpt hqb hN hNd hck hnm
        go_wp2_with (fail)
        with_reducible refine HBD.out.mono ?_
        rintro e wz ⟨rfl, rfl⟩
        go_wp2_with (fail)
        with_reducible refine (HCK.out _).mono ?_
        rintro e w5 ⟨rfl, hb⟩
        have h5 : Rd w5 rb s (n + d) false := Blk.below B4.out.2 hb B4.out.2.lt
        have B5 := Lib.hid (And.intro (B4.out.1.trans (hb.mono B4.out.1.size)) h5)
        have HAT := Lib.hid (rAt_any h5)
        have HLE := Lib.hid (rLeft_any h5 HM.out.2.1 HD.out.2.2.2.2.1.2)
        have hsub : ((s.size - (n + d) : Nat) : Int) = (s.size : Int) - ((n : Int) + (d : Int)) := by have := HD.out.2.2.2.2.1; omega
        rw [hsub] at HLE
        have hdI : (0 : Int) < (d : Int) := by have := HD.out.2.2.2.2.1; omega
        have hdI2 : (n : Int) + (d : Int) ≤ (s.size : Int) := by have := HD.out.2.2.2.2.1; omega
        clear hb h5 HCK HBD hsub
        go_wp2_with (fail)
        with_reducible refine HAT.out.mono ?_
        rintro e wz ⟨rfl, rfl⟩
        go_wp2_with (fail)
        with_reducible refine HLE.out.mono ?_
        rintro e wz ⟨rfl, k, rfl⟩
        have B6 := Lib.hid (And.intro (below_drewN B5.out.1 k) (show Rd (w5.drewN k) rb s (n + d) false from B5.out.2))
        have hAT6 := fun W (h : Rd W rb s (n + d) false) => rAt_any h
        have HAT6 := Lib.hid hAT6
        generalize w5.drewN k = w6 at B6 ⊢
        clear hAT6 HAT HLE B4 B5
        go_wp2_with (fail)
        with_reducible refine (HAT6.out _ B6.out.2).mono ?_
        rintro e wz ⟨rfl, rfl⟩
        have HO := Lib.hid (rOpen_any s w6)
        go_wp2_with (fail)
        with_reducible refine HO.out.mono ?_
        rintro e w7 ⟨rfl, h, hb⟩
        obtain ⟨pb, hpb⟩ : ∃ pb, w6.heap.size = pb := ⟨_, rfl⟩
        rw [hpb] at h hb ⊢
        have hne : rb ≠ pb ∧ w.heap.size ≤ pb := by have := B6.out.2.lt; have := B6.out.1.size; omega
        have h7 : Rd w7 rb s (n + d) false := Blk.below B6.out.2 hb (by rw [← hpb]; exact B6.out.2.lt)
        have B7 := Lib.hid (And.intro (B6.out.1.trans (hb.mono hne.2)) (And.intro h7 hne))
        have HR := Lib.hid (rRaw_yes h n HM.out.1 (by have := HD.out.2.2.2.2.1; omega))
        clear h hb h7 hne HO B6 hpb
        go_wp2_with (fail)
        with_reducible refine HR.out.mono ?_
        rintro e w8 ⟨rfl, h, hk⟩
        rw [Nat.zero_add] at h
        have B8 := Lib.hid (And.intro (B7.out.1.trans (But.below hk B7.out.2.2.2 B7.out.1.size)) (But.rd hk B7.out.2.1 B7.out.2.2.1))
        have HP := Lib.hid (rPart_yes h d HM.out.2.1 HD.out.2.2.2.2.1.2)
        clear h hk HR
        go_wp2_with (fail)
        with_reducible refine (HAT6.out _ B8.out.2).mono ?_
        rintro e wz ⟨rfl, rfl⟩
        have hpd : (n : Int) + (d : Int) - (n : Int) = (d : Int) := by omega
        go_wp2_with (fail)
        clear hpd
        with_reducible refine HP.out.mono ?_
        rintro e w9 ⟨g, S, rfl, hSd, hg, hp, hk, hgs⟩
        have hb9 : Below w.heap.size w w9 := B8.out.1.trans (But.below hk B7.out.2.2.2 B8.out.1.size)
        have hr9 : Rd w9 rb s (n + d) false := But.rd hk B8.out.2 B7.out.2.2.1
        have hSz : S.size = n + d := by
          have := congrArg List.length hSd
          simp at this
          have := HD.out.2.2.2.2.1
          omega
        have B9 := Lib.hid (And.intro hb9 (And.intro hr9 (And.intro hp (And.intro hg (And.intro hSd (And.intro hSz (show w.heap.size ≤ g by have := B8.out.1.size; omega)))))))
        have HG := Lib.hid (rAt_any hg)
        have HPA := Lib.hid (rAt_any hp)
        have HRA := Lib.hid (rAt_any hr9)
        have HNG := Lib.hid (rName_any hg (by rw [hSz]; have := HD.out.2.2.2.2.1; have := HM.out.2.1; omega) (by omega))
        clear hb9 hr9 hSd hg hp hk hgs hSz HP B8 B7
        go_wp2_with (fail)
        with_reducible refine HG.out.mono ?_
        rintro e wz ⟨rfl, rfl⟩
        go_wp2_with (fail)
        with_reducible refine HPA.out.mono ?_
        rintro e wz ⟨rfl, rfl⟩
        go_wp2_with (fail)
        with_reducible refine HRA.out.mono ?_
        rintro e wz ⟨rfl, rfl⟩
        go_wp2_with (fail)
        with_reducible refine HNG.out.mono ?_
        rintro e w10 hp
        clear HG HPA HRA HNG
        unfold NamePost at hp
        rw [B9.out.2.2.2.2.1] at hp
        rcases hp with ⟨hn', q', hq', rfl, h, hk⟩ | ⟨hn', rfl, h, hk⟩
        · have he : nread (s.data.toList.take (n + d)) n = nread s.data.toList n := by
            rcases HD.out.2.2.2.1 with h' | h'
            · rw [h'] at hn'; cases hn'
            · exact h'
          rw [he, HD.out.2.2.1] at hq'
          injection hq' with hq'
          subst hq'
          rw [he, HD.out.1, HD.out.2.2.2.2.2.1]
          have HBD := Lib.hid (rBad_any h)
          have HLE := Lib.hid (rLeft_any h (by rw [B9.out.2.2.2.2.2.1]; have := HD.out.2.2.2.2.1; have := HM.out.2.1; omega) (by rw [B9.out.2.2.2.2.2.1]; exact Nat.le_refl _))
          rw [B9.out.2.2.2.2.2.1, Nat.sub_self] at HLE
          have B10 := Lib.hid (B9.out.1.trans (But.below hk B9.out.2.2.2.2.2.2 B9.out.1.size))
          clear h hk hn' he
          go_wp2_with (fail)
          with_reducible refine HBD.out.mono ?_
          rintro e wz ⟨rfl, rfl⟩
          go_wp2_with (fail)
          refine HLE.out.mono ?_
          rintro e wz ⟨rfl, k', rfl⟩
          go_wp2_with (fail)
          go_ret
          exact ⟨rfl, below_drewN B10.out _⟩
        · have HBD := Lib.hid (rBad_any h)
          have B10 := Lib.hid (B9.out.1.trans (But.below hk B9.out.2.2.2.2.2.2 B9.out.1.size))
          clear h hk hn'
          go_wp2_with (fail)
          with_reducible refine HBD.out.mono ?_
          rintro e wz ⟨rfl, rfl⟩
          go_wp2_with (fail)
          go_ret
          exact ⟨rfl, B10.out⟩
      · have HBD := Lib.hid (rBad_any h)
        have HLE := Lib.hid (rLeft_bad h)
        have B4 := Lib.hid (B3.out.trans (But.below hk B2.out.2 B3.out.size))
        clear h hk hn
        go_wp2_with (fail)
        with_reducible refine HBD.out.mono ?_
        rintro e wz ⟨rfl, rfl⟩
        go_wp2_with (fail)
        with_reducible refine HLE.out.mono ?_
        rintro e wz ⟨rfl, rfl⟩
        go_wp2_with (fail)
        go_ret
        exact ⟨rfl, B4.out⟩
    · have HR := Lib.hid (rRaw_no h at' HM.out.1 (Nat.zero_le _) (by omega))
      have hdd : (decide (at' < 0) = true) ∨ (decide (at' < 0) = false ∧ decide ((s.size : Int) < at') = true) := by
        by_cases h0 : at' < 0
        · left; simpa using h0
        · right; simp; omega
      clear hat h
      go_wp2_with (fail)
      with_reducible refine HR.out.mono ?_
      rintro e w3 ⟨rfl, h, hk⟩
      have B3 := Lib.hid (B2.out.1.trans (But.below hk B2.out.2 B2.out.1.size))
      have HBD := Lib.hid (rBad_any h)
      have HNA := Lib.hid (rName_bad h)
      have HNU := Lib.hid (rNum1_bad h)
      have HLE := Lib.hid (rLeft_bad h)
      clear h hk HR
      rcases hdd with d1 | ⟨d1, d2⟩
      all_goals
        go_wp2_with (fail)
        with_reducible refine HBD.out.mono ?_
        rintro e wz ⟨rfl, rfl⟩
        go_wp2_with (fail)
        with_reducible refine HNA.out.mono ?_
        rintro e wz ⟨rfl, rfl⟩
        go_wp2_with (fail)
        with_reducible refine HNU.out.mono ?_
        rintro e wz ⟨rfl, rfl⟩
        go_wp2_with (fail)
        with_reducible refine HLE.out.mono ?_
        rintro e wz ⟨rfl, rfl⟩
        go_wp2_with (fail)
        go_ret
        exact ⟨rfl, B3.out⟩
end Go.Proofs.Ytkjefohkhdadaaa
