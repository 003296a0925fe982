/- The walk of hardtacklaw04.RdataTells: any data of any type are right or not, and have their names, small letters, address, least number, and texts. Conditions: none. -/
import Derived.Test.YtkjefohkhdadaaaRdTells
namespace Go.Proofs.Ytkjefohkhdadaaa
open Go.RowKit Go.Lib

set_option maxRecDepth 100000 in
set_option maxHeartbeats 16000000 in
theorem rdataTells_law (t : Int) (s : ByteArray) (_ht : 0 ≤ t ∧ t ≤ 65535) (_hs : s.size ≤ maxLen) (w : World) :
    Calls Try.prog 8 #[.int .u16 t, .string s] w fun e w' => e = .returned (.bool true) ∧ Below w.heap.size w w' := by
  clear _ht _hs
  have HL := Lib.hid (fun W => lives04 W)
  by_cases hbig : 16384 < s.size
  · have hI : decide (16384 < (s.size : Int)) = true := by simp; omega
    clear hbig
    go_enter Try.func8, Try.ntmps8
    go_wp2_with (fail)
    with_reducible refine (HL.out _).mono ?_
    rintro e w1 ⟨rfl, hb⟩
    go_wp2_with (fail)
    go_ret
    exact ⟨rfl, hb⟩
  have hI : decide (16384 < (s.size : Int)) = false := by simp; omega
  have hsz : s.size ≤ 16384 := by omega
  have hll : s.data.toList.length = s.size := by simp
  have HA := Lib.hid (fun W => addr_any s (by omega) W)
  have HA2 := Lib.hid (fun W => rAddr4_any s (by omega) W)
  have HE := Lib.hid (fun W => least_any s (by omega) W)
  have HE2 := Lib.hid (fun W => rLeast4_any s (by omega) W)
  have HX := Lib.hid (fun W => (rdTexts_any s (by omega) W).mono fun e w' h => textsX_post h)
  have HX2 := Lib.hid (fun W => (rTexts4_any s (by omega) W).mono fun e w' h => textsX_post h)
  have HC := Lib.hid (fun W => rdCheck_any t s (by omega) W)
  have HC2 := Lib.hid (fun W => rCheck4_any t s (by omega) W)
  have HN := Lib.hid (fun W => (names_any t s (by omega) W).mono fun e w' h => namesX_post h)
  have HN2 := Lib.hid (fun W => (rNames4_any t s (by omega) W).mono fun e w' h => namesX_post h)
  have HF := Lib.hid (fun W => rdFold_any t s (by omega) W (fun V p A c hq hS => by
    obtain ⟨f, hf⟩ : ∃ f, formN t = some f := by
      cases hf : formN t with
      | some f => exact ⟨f, rfl⟩
      | none => unfold lookN at hq; rw [hf] at hq; cases hq
    have h1 := cutN_len (look_cut hf hq)
    have h2 := formN_le' hf
    have h3 : 1 ≤ f.2.1 := by
      unfold formN at hf
      split at hf
      · cases hf; decide
      · split at hf
        · cases hf; decide
        · split at hf
          · cases hf; decide
          · split at hf
            · cases hf; decide
            · cases hf
    have h4 := congrArg List.length h1.1
    simp only [List.length_append] at h4
    exact joins_of hS (by omega) (by omega) (by omega)))
  have HF2 := Lib.hid (fun W => rFold4_any t s (by omega) W)
  have hXl := textsX_len s.data.toList
  have hNl := namesX_len t s.data.toList
  obtain ⟨xs, hxs⟩ : ∃ xs, textsX s.data.toList = xs := ⟨_, rfl⟩
  obtain ⟨ns, hns⟩ : ∃ ns, namesX t s.data.toList = ns := ⟨_, rfl⟩
  obtain ⟨a1, ha1⟩ : ∃ x, (addrN s.data.toList).1 = x := ⟨_, rfl⟩
  obtain ⟨a2, ha2⟩ : ∃ x, (addrN s.data.toList).2 = x := ⟨_, rfl⟩
  obtain ⟨l1, hl1⟩ : ∃ x, (leastN s.data.toList).1 = x := ⟨_, rfl⟩
  obtain ⟨l2, hl2⟩ : ∃ x, (leastN s.data.toList).2 = x := ⟨_, rfl⟩
  obtain ⟨tn, htn⟩ : ∃ x : Int, (if okD 16 s.data.toList = true then 0 else 2) = x := ⟨_, rfl⟩
  obtain ⟨ck, hck⟩ : ∃ x, chkD t s.data.toList = x := ⟨_, rfl⟩
  obtain ⟨fd, hfd⟩ : ∃ x : ByteArray, (⟨(foldD t s.data.toList).toArray⟩ : ByteArray) = x := ⟨_, rfl⟩
  rw [ha1, ha2] at HA HA2
  rw [hl1, hl2] at HE HE2
  rw [hxs, htn] at HX HX2
  rw [hns] at HN HN2
  rw [hck] at HC HC2
  rw [hfd] at HF HF2
  rw [hxs] at hXl
  rw [hns] at hNl
  have HSZ := Lib.hid (And.intro hXl hNl)
  clear hbig hsz hll hxs hns ha1 ha2 hl1 hl2 htn hck hfd hXl hNl
  go_enter Try.func8, Try.ntmps8
  go_wp2_with (fail)
  with_reducible refine (HA.out _).mono ?_
  rintro e w1 ⟨rfl, hb⟩
  have B1 := Lib.hid hb
  clear hb HA
  go_wp2_with (fail)
  with_reducible refine (HA2.out _).mono ?_
  rintro e w2 ⟨rfl, hb⟩
  have B2 := Lib.hid (B1.out.trans (hb.mono B1.out.size))
  clear hb HA2
  go_wp2_with (fail)
  with_reducible refine (HE.out _).mono ?_
  rintro e w3 ⟨rfl, hb⟩
  have B3 := Lib.hid (B2.out.trans (hb.mono B2.out.size))
  clear hb HE
  go_wp2_with (fail)
  with_reducible refine (HE2.out _).mono ?_
  rintro e w4 ⟨rfl, hb⟩
  have B4 := Lib.hid (B3.out.trans (hb.mono B3.out.size))
  clear hb HE2
  go_wp2_with (fail)
  refine (HX.out _).mono ?_
  rintro e w5 ⟨A, c, rfl, hT, hb⟩
  have B5 := Lib.hid (B4.out.trans (hb.mono B4.out.size))
  have T5 := Lib.hid hT
  clear hb hT HX
  go_wp2_with (fail)
  refine (HX2.out _).mono ?_
  rintro e w6 ⟨A2, c2, rfl, hT, hb⟩
  have B6 := Lib.hid (B5.out.trans (hb.mono B5.out.size))
  have T6 := Lib.hid (And.intro (T5.out.below hb) hT)
  clear hb hT HX2
  go_wp2_with (fail)
  with_reducible refine (HL.out _).mono ?_
  rintro e w7 ⟨rfl, hb⟩
  have B7 := Lib.hid (B6.out.trans (hb.mono B6.out.size))
  have T7 := Lib.hid (And.intro (T6.out.1.below hb) (T6.out.2.below hb))
  clear hb HL
  go_wp2_with (fail)
  with_reducible refine (HC.out _).mono ?_
  rintro e w8 ⟨rfl, hb⟩
  have B8 := Lib.hid (B7.out.trans (hb.mono B7.out.size))
  have T8 := Lib.hid (And.intro (T7.out.1.below hb) (T7.out.2.below hb))
  clear hb HC
  go_wp2_with (fail)
  with_reducible refine (HC2.out _).mono ?_
  rintro e w9 ⟨rfl, hb⟩
  have B9 := Lib.hid (B8.out.trans (hb.mono B8.out.size))
  have T9 := Lib.hid (And.intro (T8.out.1.below hb) (T8.out.2.below hb))
  clear hb HC2
  go_wp2_with (fail)
  refine (HN.out _).mono ?_
  rintro e w10 ⟨A3, c3, rfl, hT, hb⟩
  have B10 := Lib.hid (B9.out.trans (hb.mono B9.out.size))
  have T10 := Lib.hid (And.intro (T9.out.1.below hb) (And.intro (T9.out.2.below hb) hT))
  clear hb hT HN
  go_wp2_with (fail)
  refine (HN2.out _).mono ?_
  rintro e w11 ⟨A4, c4, rfl, hT, hb⟩
  have B11 := Lib.hid (B10.out.trans (hb.mono B10.out.size))
  have T11 := Lib.hid (And.intro (T10.out.1.below hb) (T10.out.2.1.below hb))
  have HS := Lib.hid (sameT_any ns A3 A4 c3 c4 w11 (T10.out.2.2.below hb) hT HSZ.out.2)
  clear hb hT HN2
  go_wp2_with (fail)
  with_reducible refine HS.out.mono ?_
  rintro e w12 ⟨rfl, hb⟩
  have B12 := Lib.hid (B11.out.trans (hb.mono B11.out.size))
  have T12 := Lib.hid (And.intro (T11.out.1.below hb) (T11.out.2.below hb))
  clear hb HS
  go_wp2_with (fail)
  with_reducible refine (HF.out _).mono ?_
  rintro e w13 ⟨rfl, hb⟩
  have B13 := Lib.hid (B12.out.trans (hb.mono B12.out.size))
  have T13 := Lib.hid (And.intro (T12.out.1.below hb) (T12.out.2.below hb))
  clear hb HF
  go_wp2_with (fail)
  with_reducible refine (HF2.out _).mono ?_
  rintro e w14 ⟨rfl, hb⟩
  have B14 := Lib.hid (B13.out.trans (hb.mono B13.out.size))
  have HS := Lib.hid (sameT_any xs A A2 c c2 w14 (T13.out.1.below hb) (T13.out.2.below hb) HSZ.out.1)
  clear hb HF2
  go_wp2_with (fail)
  with_reducible refine HS.out.mono ?_
  rintro e w15 ⟨rfl, hb⟩
  have B15 := Lib.hid (B14.out.trans (hb.mono B14.out.size))
  clear hb HS
  go_wp2_with (fail)
  go_ret
  exact ⟨rfl, B15.out⟩
end Go.Proofs.Ytkjefohkhdadaaa
