/- The walk of hardtacklaw04.RdataBack: right data that are written behind some names are read as they were; what is read is right. Conditions: none. -/
import Derived.Test.YtkjefohkhdadaaaRdBack
namespace Go.Proofs.Ytkjefohkhdadaaa
open Go.RowKit Go.Lib

theorem written_len {t : Int} {d l l' : Bs} (h : Written t d l l') : l'.length ≤ l.length + d.length := by
  unfold Written at h
  cases hq : lookN t d with
  | none =>
    rw [hq] at h
    dsimp only at h
    rw [h]; simp
  | some p =>
    obtain ⟨a, ns, b⟩ := p
    rw [hq] at h
    obtain ⟨E, h1, _, h3⟩ := h
    obtain ⟨f, hf⟩ : ∃ f, formN t = some f := by
      cases hf : formN t with
      | some f => exact ⟨f, rfl⟩
      | none => unfold lookN at hq; rw [hf] at hq; cases hq
    have hcl := cutN_len (look_cut hf hq)
    have h4 := congrArg List.length hcl.1
    simp only [List.length_append] at h4
    rw [h1]
    simp only [List.length_append]
    omega
theorem okD_le {t : Int} {d : Bs} (h : okD t d = true) : d.length ≤ 4096 := by
  unfold okD at h
  rw [Bool.and_eq_true] at h
  simpa using h.1

set_option maxRecDepth 100000 in
set_option maxHeartbeats 16000000 in
theorem rdataBack_law (n : ByteArray) (t : Int) (s raw : ByteArray) (hn : n.size ≤ maxLen) (_ht : 0 ≤ t ∧ t ≤ 65535) (_hs : s.size ≤ maxLen) (_hr : raw.size ≤ maxLen) (w : World) :
    Calls Try.prog 9 #[.string n, .int .u16 t, .string s, .string raw] w fun e w' => e = .returned (.bool true) ∧ Below w.heap.size w w' := by
  have HL := Lib.hid (lives04 w)
  have HNN := Lib.hid hn
  clear hn _ht _hs _hr
  go_enter Try.func9, Try.ntmps9
  go_wp2_with (fail)
  with_reducible refine HL.out.mono ?_
  rintro e w1 ⟨rfl, hb⟩
  have B1 := Lib.hid hb
  clear hb HL
  by_cases h1 : 16384 < s.size
  · have hI : decide (16384 < (s.size : Int)) = true := by simp; omega
    clear h1
    go_wp2_with (fail)
    go_ret
    exact ⟨rfl, B1.out⟩
  by_cases h2 : 16384 < raw.size
  · have hI : decide (16384 < (s.size : Int)) = false := by simp; omega
    have hI2 : decide (16384 < (raw.size : Int)) = true := by simp; omega
    clear h1 h2
    go_wp2_with (fail)
    go_ret
    exact ⟨rfl, B1.out⟩
  have hI : decide (16384 < (s.size : Int)) = false := by simp; omega
  have hI2 : decide (16384 < (raw.size : Int)) = false := by simp; omega
  have HM := Lib.hid (And.intro h1 h2)
  have HN := Lib.hid (wn_new 65536 w1)
  clear h1 h2
  go_wp2_with (fail)
  with_reducible refine HN.out.mono ?_
  rintro e w2 ⟨b, mb, rfl, h, hb⟩
  have F2 := Lib.hid (And.intro h (B1.out.trans (hb.mono B1.out.size)))
  clear h hb HN
  go_upto_region 8 with (fail)
  go_cut [] (fun wx => ∃ (l : Bs) (R : Rests) (c : Nat), Aside (Wn (fun i => i < w1.heap.size) wx b mb c 65536 l R ∧ OkR l R ∧ l.length ≤ 255 ∧ c ≤ 300 ∧ Below w.heap.size w wx))
  case first =>
    cases hnm : isName n.data.toList with
    | true =>
      have HA := Lib.hid (wName_any n hnm F2.out.1 (by have := gd_size hnm; simp; omega) (by decide) (by decide) (fun k p h => by cases h))
      have hmore := wname_more (pt := true) (ls := (labs n.data.toList).1) (l := []) (R := fun _ => none) (labs_ok _) (OkR.none _)
      have hml : (mk (labs n.data.toList).1).length ≤ 255 := by rw [mk_labs hnm]; exact ((isName_iff _).1 hnm).1
      have HE := Lib.hid (And.intro hmore hml)
      clear hmore hml hnm
      go_wp2_with (fail)
      with_reducible refine HA.out.mono ?_
      rintro e w3 ⟨rfl, ⟨c3, hc3, h⟩, hk⟩
      have F3 := Lib.hid (And.intro h (And.intro hc3 hk))
      clear h hc3 hk HA
      go_wp2_with (fail)
      go_meet
      case rel =>
        obtain ⟨tt, h1, h2, h3, h4, h5⟩ := HE.out.1
        refine ⟨_, _, c3, F3.out.1, by rw [h1]; exact h5, by rw [h1, List.nil_append]; have := HE.out.2; omega, by have := F3.out.2.1; omega, F2.out.2.trans (F3.out.2.2.below fun i hi => Nat.lt_of_lt_of_le hi B1.out.size)⟩
    | false =>
      have HA := Lib.hid (wName_no n HNN.out hnm F2.out.1.1)
      clear hnm
      go_wp2_with (fail)
      with_reducible refine HA.out.mono ?_
      rintro e w3 ⟨rfl, hb3⟩
      have F3 := Lib.hid (And.intro (F2.out.1.below hb3) (F2.out.2.trans (hb3.mono F2.out.2.size)))
      clear hb3 HA
      go_wp2_with (fail)
      go_meet
      case rel => exact ⟨_, _, 0, F3.out.1, OkR.none _, by decide, by decide, F3.out.2⟩
  case rest =>
    obtain ⟨l, R, c, hA⟩ := hcut
    obtain ⟨w3, rfl⟩ : ∃ w3, w3 = wc := ⟨_, rfl⟩
    have HLE := Lib.hid (wLen_any hA.out.1.1)
    have hlI : (l.length : Int) ≤ 255 := by have := hA.out.2.2.1; omega
    go_wp2_with (fail)
    with_reducible refine HLE.out.mono ?_
    rintro e wz ⟨rfl, rfl⟩
    have hs47 : s.size ≤ 140737488355328 := by have := HM.out.1; omega
    have HW : RowKit.Hid (Calls Try.prog 63 #[.pointer (some ⟨b, 0, none⟩), .int .u16 t, .string s] w3 fun e w' => ∃ code : Int, e = .returned (.int .i64 code) ∧ Below w.heap.size w w' ∧ (code = 2 ∨ (code = 0 ∧ okD t s.data.toList = true ∧ ∃ l', Wr (fun i => i < w1.heap.size) w' b 65536 false (.map (some mb)) l' ∧ Written t s.data.toList l l'))) := Lib.hid (by
      cases hok : okD t s.data.toList with
      | false =>
        exact (rdWrite_no t s hs47 hok).mono fun e w' ⟨he, hb⟩ => ⟨2, he, hA.out.2.2.2.2.trans (hb.mono hA.out.2.2.2.2.size), .inl rfl⟩
      | true =>
        have hd := okD_le hok
        have hsz : s.data.toList.length = s.size := by simp
        refine (rdWrite_any t s hs47 hok hA.out.1 hA.out.2.1 (by omega) (by decide) (by have := hA.out.2.2.2.1; omega)).mono ?_
        rintro e w' ⟨he, l', R', c', _, hw, hk, _, hwr, _⟩
        exact ⟨0, he, hA.out.2.2.2.2.trans (hk.below fun i hi => Nat.lt_of_lt_of_le hi B1.out.size), .inr ⟨rfl, rfl, l', hw.1.mono fun i hi => .inl hi, hwr⟩⟩)
    clear hs47 HLE
    go_wp2_with (fail)
    with_reducible refine HW.out.mono ?_
    rintro e w4 ⟨code, rfl, hb4, hcode⟩
    have H4 := Lib.hid (And.intro hb4 hcode)
    clear hb4 hcode HW
    go_upto_if 41 with (fail)
    go_cut [] (fun wx => Below w.heap.size w wx)
    case first =>
      rcases H4.out.2 with rfl | ⟨rfl, hok, l', hwr, hwn⟩
      · go_wp2_with (fail)
        go_meet
        case rel => exact H4.out.1
      · have hbk := back_law hok hwn
        have hwl := written_len hwn
        have hd := okD_le hok
        have hsz : s.data.toList.length = s.size := by simp
        obtain ⟨L', hL'⟩ : ∃ X : ByteArray, (⟨l'.toArray⟩ : ByteArray) = X := ⟨_, rfl⟩
        have hLd : L'.data.toList = l' := by subst hL'; rfl
        have hLs : L'.size = l'.length := by rw [← hLd]; simp
        have HOU := Lib.hid (wOut_any hwr)
        rw [hL'] at HOU
        have HOP := Lib.hid (fun W => rOpen_any L' W)
        obtain ⟨k, hk⟩ : ∃ k, l'.length - l.length = k := ⟨_, rfl⟩
        rw [hk] at hbk
        have hkI : (L'.size : Int) - (l.length : Int) = (k : Int) := by omega
        have hkI2 : (k : Int) ≤ 5000 := by omega
        have hLI : (L'.size : Int) ≤ 5000 := by omega
        have HB := Lib.hid (And.intro hbk (And.intro hLd (And.intro (show L'.size ≤ 5000 by omega) (And.intro (show l.length + k = L'.size by omega) (show l.length ≤ L'.size by omega)))))
        clear hwr hwn hok hbk hwl hd hsz hL' hLd hLs hk
        go_wp2_with (fail)
        with_reducible refine HOU.out.mono ?_
        rintro e wz ⟨rfl, rfl⟩
        clear HOU
        go_wp2_with (fail)
        with_reducible refine (HOP.out _).mono ?_
        rintro e w5 ⟨rfl, hr, hb⟩
        obtain ⟨rb, hrb⟩ : ∃ rb, w4.heap.size = rb := ⟨_, rfl⟩
        rw [hrb] at hr ⊢
        have hrw : w.heap.size ≤ rb := by rw [← hrb]; exact H4.out.1.size
        have H5 := Lib.hid (And.intro (H4.out.1.trans (hb.mono H4.out.1.size)) hrw)
        have HRW := Lib.hid (rRaw_yes hr l.length (by have := HB.out.2.2.1; unfold maxLen; omega) (by have := HB.out.2.2.2.2; omega))
        clear hr hb hrb hrw HOP
        go_wp2_with (fail)
        with_reducible refine HRW.out.mono ?_
        rintro e w6 ⟨rfl, hr, hbt⟩
        rw [Nat.zero_add] at hr
        have H6 := Lib.hid (H5.out.1.trans (But.below hbt H5.out.2 H5.out.1.size))
        have HRD := Lib.hid (rdRead_any t k hr (by have := HB.out.2.2.1; omega) (by have := HB.out.2.2.2.1; omega))
        clear hr hbt HRW
        go_wp2_with (fail)
        with_reducible refine HRD.out.mono ?_
        rintro e w7 ⟨hq, hr, hbt⟩
        rw [HB.out.2.1] at hq
        obtain rfl : e = .returned (.tuple #[.string s, .int .i64 0]) := by
          rcases hq with ⟨hq, _⟩ | ⟨d, hq, he⟩
          · rw [HB.out.1.2] at hq; cases hq
          · rw [HB.out.1.2] at hq
            injection hq with hq
            subst hq
            exact he
        have H7 := Lib.hid (H6.out.trans (But.below hbt H5.out.2 H6.out.size))
        have HLF := Lib.hid (rLeft_any hr (by have := HB.out.2.2.1; omega) (by have := HB.out.2.2.2.1; omega))
        rw [HB.out.2.2.2.1, Nat.sub_self] at HLF
        have HBD := Lib.hid (fun kk => rBad_any (w := w7.drewN kk) (Blk.drewN hr kk))
        clear hq hr hbt HRD
        go_wp2_with (fail)
        refine HLF.out.mono ?_
        rintro e wz ⟨rfl, kk, rfl⟩
        go_wp2_with (fail)
        with_reducible refine (HBD.out _).mono ?_
        rintro e wz ⟨rfl, rfl⟩
        go_wp2_with (fail)
        go_meet
        case rel => exact below_drewN H7.out kk
    case rest =>
      obtain ⟨w5, rfl⟩ : ∃ w5, w5 = wc := ⟨_, rfl⟩
      have HOP := Lib.hid (rOpen_any raw w5)
      have H5 := Lib.hid hcut
      clear hcut H4
      go_wp2_with (fail)
      with_reducible refine HOP.out.mono ?_
      rintro e w6 ⟨rfl, hr, hb⟩
      obtain ⟨rb, hrb⟩ : ∃ rb, w5.heap.size = rb := ⟨_, rfl⟩
      rw [hrb] at hr ⊢
      have hrw : w.heap.size ≤ rb := by rw [← hrb]; exact H5.out.size
      have H6 := Lib.hid (And.intro (H5.out.trans (hb.mono H5.out.size)) hrw)
      have HRD := Lib.hid (rdRead_any t raw.size hr (by have := HM.out.2; omega) (by omega))
      clear hr hb hrb hrw HOP
      go_wp2_with (fail)
      with_reducible refine HRD.out.mono ?_
      rintro e w7 ⟨hq, hr, hbt⟩
      rw [Nat.zero_add] at hr hq
      have H7 := Lib.hid (H6.out.1.trans (But.below hbt H6.out.2 H6.out.1.size))
      have HBD := Lib.hid (fun W (h : Rd W rb raw raw.size false) => rBad_any h)
      have HLF := Lib.hid (fun W (h : Rd W rb raw raw.size false) => rLeft_any h (by have := HM.out.2; omega) (Nat.le_refl _))
      rw [Nat.sub_self] at HLF
      have HR7 := Lib.hid hr
      clear hr hbt HRD
      rcases hq with ⟨_, rfl⟩ | ⟨d, hq, rfl⟩
      · go_wp2_with (fail)
        go_ret
        exact ⟨rfl, H7.out⟩
      · obtain ⟨D, hD⟩ : ∃ X : ByteArray, (⟨d.toArray⟩ : ByteArray) = X := ⟨_, rfl⟩
        have hDd : D.data.toList = d := by subst hD; rfl
        have hok := readD_ok hq
        have hDl : D.size ≤ 4096 := by have := okD_le hok; rw [← hDd] at this; simpa using this
        have HCK := Lib.hid (fun W => rdCheck_any t D (by omega) W)
        rw [hDd, chk_ok hok] at HCK
        rw [hD]
        clear hq hD hDd hok hDl
        go_wp2_with (fail)
        with_reducible refine (HCK.out _).mono ?_
        rintro e w8 ⟨rfl, hb8⟩
        have H8 := Lib.hid (And.intro (H7.out.trans (hb8.mono H7.out.size)) (show Rd w8 rb raw raw.size false from Blk.below HR7.out hb8 HR7.out.lt))
        clear hb8 HCK
        go_wp2_with (fail)
        with_reducible refine (HBD.out _ H8.out.2).mono ?_
        rintro e wz ⟨rfl, rfl⟩
        go_wp2_with (fail)
        refine (HLF.out _ H8.out.2).mono ?_
        rintro e wz ⟨rfl, kk, rfl⟩
        go_wp2_with (fail)
        go_ret
        exact ⟨rfl, below_drewN H8.out.1 kk⟩
end Go.Proofs.Ytkjefohkhdadaaa
