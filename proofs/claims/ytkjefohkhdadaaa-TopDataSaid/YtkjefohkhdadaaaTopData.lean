/- The walk of hardtacktop.TopData: right data of any types, written one behind the other, are read as they were; their names are names. Conditions: none. -/
import Derived.Test.YtkjefohkhdadaaaTopDataP
import Derived.Test.YtkjefohkhdadaaaTopBegin
import Derived.Deep.CutBlock
import Derived.Deep.DeepCutAuto
namespace Go.Proofs.Ytkjefohkhdadaaa
open Go.RowKit Go.Lib

set_option maxRecDepth 100000 in
set_option maxHeartbeats 16000000 in
theorem topData_law (w : World) (A : Option Addr) (ts : List Int) (c : Nat) (A2 : Option Addr) (ds : List ByteArray) (c2 : Nat) (hT : TTab w A (ts.map (Value.int .u16))) (_ht : ∀ t ∈ ts, 0 ≤ t ∧ t ≤ 65535) (hc : ts.length ≤ c) (hm : c ≤ maxLen)
    (hT2 : TTab w A2 (ds.map Value.string)) (hx : ∀ x ∈ ds, x.size ≤ maxLen) (hc2 : ds.length ≤ c2) (hm2 : c2 ≤ maxLen) :
    Calls Try.prog 11 #[.slice A ts.length c, .slice A2 ds.length c2] w fun e w' => e = .returned (.bool true) ∧ Below w.heap.size w w' := by
  obtain ⟨i1, hi1, hy0, hy1, hy2⟩ := info_parts info_int1
  have HT := Lib.hid (And.intro hT (And.intro hT2 hx))
  have HB := Lib.hid (begins_any w)
  have htl : (ts.length : Int) ≤ 9223372036854775807 := by unfold maxLen at hm; omega
  have hdl : (ds.length : Int) ≤ 9223372036854775807 := by unfold maxLen at hm2; omega
  clear hT hT2 hx hc hc2 hm hm2
  go_enter Try.func11, Try.ntmps11
  go_wp2_with (fail)
  with_reducible refine HB.out.mono ?_
  rintro e w1 ⟨rfl, hb⟩
  have B1 := Lib.hid hb
  clear hb HB
  by_cases h1 : 20 < ts.length
  · have hI : decide (20 < (ts.length : Int)) = true := by simp; omega
    clear h1
    go_wp2_with (fail)
    go_ret
    exact ⟨rfl, B1.out⟩
  by_cases h2 : 20 < ds.length
  · have hI : decide (20 < (ts.length : Int)) = false := by simp; omega
    have hI2 : decide (20 < (ds.length : Int)) = true := by simp; omega
    clear h1 h2
    go_wp2_with (fail)
    go_ret
    exact ⟨rfl, B1.out⟩
  have hI : decide (20 < (ts.length : Int)) = false := by simp; omega
  have hI2 : decide (20 < (ds.length : Int)) = false := by simp; omega
  have ht20 : (ts.length : Int) ≤ 20 := by omega
  have hd20 : (ds.length : Int) ≤ 20 := by omega
  have HN := Lib.hid (wn_new 65536 w1)
  clear h1 h2
  go_wp2_with (fail)
  with_reducible refine HN.out.mono ?_
  rintro e w2 ⟨b, mb, rfl, h, hb⟩
  have F2 := Lib.hid (And.intro h (B1.out.trans (hb.mono B1.out.size)))
  clear h hb HN
  go_upto_block 0 with (fail)
  go_cut [6, 7] (fun v6 v7 wx => ∃ (es : List (Nat × Nat)) (A6 A7 : Option Addr) (c6 c7 cnt : Nat) (lb : Bs) (R : Rests), v6 = .slice A6 es.length c6 ∧ v7 = .slice A7 es.length c7 ∧ Aside (DataS w wx b mb ts ds es (.slice A6 es.length c6) (.slice A7 es.length c7) lb R cnt ∧ es.length ≤ 20))
  case first =>
    go_wp2_with (fail)
    go_loopg [6, 7, 36] ds.length (fun gg v6 v7 v36 wr => ∃ (k : Nat) (es : List (Nat × Nat)) (A6 A7 : Option Addr) (c6 c7 cnt : Nat) (lb : Bs) (R : Rests), v6 = .slice A6 es.length c6 ∧ v7 = .slice A7 es.length c7 ∧ v36 = .int .i64 (k : Int) ∧
      Aside (gg + k = ds.length ∧ es.length ≤ k ∧ cnt ≤ 510 * k) ∧ Aside (DataS w wr b mb ts ds es (.slice A6 es.length c6) (.slice A7 es.length c7) lb R cnt))
    case atStart => exact ⟨0, [], none, none, 0, 0, 0, [], fun _ => none, rfl, rfl, rfl, ⟨by omega, Nat.le_refl _, Nat.zero_le _⟩, ⟨_, Sl.nil _ _, Sl.nil _ _, (fun i hi => by cases hi), F2.out.1, (fun i hi => Nat.lt_of_lt_of_le hi B1.out.size), (fun i hi => by cases hi), (fun i hi => by cases hi), F2.out.2⟩, OkR.none _, laid_nil _ _, by decide⟩
    case round =>
      obtain ⟨k, es, A6, A7, c6, c7, cnt, lb, R, rfl, rfl, rfl, hg, hD⟩ := hrel
      have he20 : es.length ≤ 20 := by have := hg.out; omega
      have HE := Lib.hid he20
      clear he20
      by_cases hk : k < ds.length
      · have hkI : (k : Int) < (ds.length : Int) := by omega
        obtain ⟨d, hd⟩ : ∃ d, ds[k]? = some d := ⟨_, List.getElem?_eq_getElem hk⟩
        obtain ⟨b0, o0, rfl, hlt0, hc0⟩ := HT.out.2.1.at (j := k) (u := .string d) (by rw [List.getElem?_map, hd]; rfl)
        obtain ⟨K, hP⟩ := hD.out.1
        have e0 : wr.cell? ⟨b0, o0 + k, none⟩ = some (.string d) := (hP.bl.cell (p := ⟨b0, o0 + k, none⟩) hlt0).trans hc0
        have HP := Lib.hid hP
        clear hP hc0
        by_cases ht : k < ts.length
        · have hI3 : decide ((ts.length : Int) ≤ (k : Int)) = false := by simp; omega
          have hktI : (k : Int) < (ts.length : Int) := by omega
          obtain ⟨t, htt⟩ : ∃ t, ts[k]? = some t := ⟨_, List.getElem?_eq_getElem ht⟩
          obtain ⟨b1, o1, rfl, hlt1, hc1⟩ := HT.out.1.at (j := k) (u := .int .u16 t) (by rw [List.getElem?_map, htt]; rfl)
          have e1 : wr.cell? ⟨b1, o1 + k, none⟩ = some (.int .u16 t) := (HP.out.bl.cell (p := ⟨b1, o1 + k, none⟩) hlt1).trans hc1
          by_cases hbig : 4096 < d.size
          · have hI4 : decide (4096 < (d.size : Int)) = true := by simp; omega
            clear hbig hc1 hd htt hk ht
            go_wp2_with (fail)
            go_meet
            case rel => exact ⟨es, A6, A7, c6, c7, cnt, lb, R, rfl, rfl, hD.out, HE.out⟩
          have hI4 : decide (4096 < (d.size : Int)) = false := by simp; omega
          have HLE := Lib.hid (wLen_any HP.out.wn.1)
          by_cases hlong : 32768 < lb.length
          · have hI5 : decide (32768 < (lb.length : Int)) = true := by simp; omega
            clear hbig hc1 hd htt hk ht hlong
            go_wp2_with (fail)
            with_reducible refine HLE.out.mono ?_
            rintro e wz ⟨rfl, rfl⟩
            go_wp2_with (fail)
            go_meet
            case rel => exact ⟨es, A6, A7, c6, c7, cnt, lb, R, rfl, rfl, hD.out, HE.out⟩
          have hI5 : decide (32768 < (lb.length : Int)) = false := by simp; omega
          have HX := Lib.hid (And.intro hk (And.intro hd (And.intro htt (And.intro hbig hlong))))
          have e1a := hlt1
          cases hok : okD t d.data.toList with
          | false =>
            have HW := Lib.hid (rdWrite_no (w := wr) (b := b) t d (by omega) hok)
            have HCK := Lib.hid (fun W => rdCheck_any t d (by omega) W)
            rw [chk_no hok] at HCK
            clear hbig hd htt hk ht hlong hok
            go_wp2_with (fail)
            with_reducible refine HLE.out.mono ?_
            rintro e wz ⟨rfl, rfl⟩
            go_wp2_with (fail)
            with_reducible refine HLE.out.mono ?_
            rintro e wz ⟨rfl, rfl⟩
            clear HLE
            go_wp2_with (fail)
            with_reducible refine HW.out.mono ?_
            rintro e w4 ⟨rfl, hb4⟩
            have e2 : w4.cell? ⟨b1, o1 + k, none⟩ = some (.int .u16 t) := (HP.out.bl.trans (hb4.mono HP.out.bl.size) |>.cell (p := ⟨b1, o1 + k, none⟩) hlt1).trans hc1
            have P4 := Lib.hid (HP.out.below hb4)
            clear hb4 hc1 HW
            go_wp2_with (fail)
            with_reducible refine (HCK.out _).mono ?_
            rintro e w5 ⟨rfl, hb5⟩
            have P5 := Lib.hid (P4.out.below hb5)
            have HLE := Lib.hid (wLen_any P5.out.wn.1)
            clear hb5
            go_wp2_with (fail)
            with_reducible refine HLE.out.mono ?_
            rintro e wz ⟨rfl, rfl⟩
            clear HLE
            go_wp2_with (fail)
            go_roundg (ds.length - (k + 1))
            case measure => have := hg.out.1; have := HX.out.1; omega
            case rel => exact ⟨k + 1, es, A6, A7, c6, c7, cnt, lb, R, rfl, rfl, by go_num, ⟨by have := HX.out.1; omega, by have := hg.out; omega, by have := hg.out; omega⟩, ⟨K, P5.out⟩, hD.out.2⟩
          | true =>
            have HW := Lib.hid (rdWrite_any t d (by omega) hok HP.out.wn hD.out.2.1 (by omega) (by decide) (by have := hg.out; omega))
            have HOK := Lib.hid hok
            clear hbig hd htt hk ht hlong hok hc1
            go_wp2_with (fail)
            with_reducible refine HLE.out.mono ?_
            rintro e wz ⟨rfl, rfl⟩
            go_wp2_with (fail)
            with_reducible refine HLE.out.mono ?_
            rintro e wz ⟨rfl, rfl⟩
            clear HLE
            go_wp2_with (fail)
            with_reducible refine HW.out.mono ?_
            rintro e w4 ⟨rfl, lb', R', cnt', _, hw4, hk4, hO4, hwr, hcnt⟩
            have P4 := Lib.hid (HP.out.turn hw4 hk4)
            have HF := Lib.hid (And.intro hO4 (And.intro (laid_more hD.out.2.2.1 HX.out.2.2.1 HX.out.2.1 HOK.out hwr) (And.intro (written_len2 hwr) hcnt)))
            clear hw4 hk4 hO4 hwr hcnt HW
            go_wp2_with (first
              | (at_builtin; (refine wpList_append_sl _ rfl (.tmp 82) (.tmp 84) 101 101 rfl 3 i1 (.int .i64 0) 1 8 Try.underlying101 hi1 hy0 hy1 hy2 rfl (.slice A7 es.length c7) es.length _ rfl (P5.out.s7.alloc _) _ rfl 1 _ (src_new (P := Try.prog) Try.underlying101 w5 3 (.int .i64 (k : Int)) rfl) (by have := HE.out; unfold maxLen; omega) (by have := HE.out; omega) ?_); intro v6 w6 hs6 hg6 hv6; obtain ⟨A8, c8, rfl, _, _⟩ := hs6.shape; have P6 := Lib.hid (P5.out.push7 hs6 hg6 hv6); clear hs6 hg6 hv6)
              | (at_builtin; go_must (refine wpList_append_sl _ rfl (.tmp 78) (.tmp 80) 101 101 rfl 3 i1 (.int .i64 0) 1 8 Try.underlying101 hi1 hy0 hy1 hy2 rfl (.slice A6 es.length c6) es.length _ rfl (P4.out.s6.alloc _) _ rfl 1 _ (src_new (P := Try.prog) Try.underlying101 w4 3 (.int .i64 (lb.length : Int)) rfl) (by have := HE.out; unfold maxLen; omega) (by have := HE.out; omega) ?_); intro v5 w5 hs5 hg5 hv5; obtain ⟨A5, c5, rfl, _, _⟩ := hs5.shape; have P5 := Lib.hid (P4.out.push6 hs5 hg5 hv5); clear hs5 hg5 hv5))
            go_roundg (ds.length - (k + 1))
            case measure => have := hg.out.1; have := HX.out.1; omega
            case rel => exact ⟨k + 1, es ++ [(lb.length, k)], A5, A8, c5, c8, cnt', lb', R', by rw [List.length_append]; rfl, by rw [List.length_append]; rfl, by go_num, ⟨by have := HX.out.1; omega, by rw [List.length_append]; have := hg.out; simp; omega, by have := hg.out; have := HF.out.2.2.2; omega⟩, ⟨_, by rw [List.length_append, ats_snoc, kepts_snoc]; exact P6.out⟩, HF.out.1, HF.out.2.1, by have := HF.out.2.2.1; have := HX.out.2.2.2; simp at *; omega⟩
        · have hI3 : decide (ts.length ≤ k) = true := by simp; omega
          clear hk ht hd
          go_wp2_with (fail)
          go_meet
          case rel => exact ⟨es, A6, A7, c6, c7, cnt, lb, R, rfl, rfl, hD.out, HE.out⟩
      · have hkI : ¬ (k : Int) < (ds.length : Int) := by omega
        clear hk
        go_wp2_with (fail)
        go_meet
        case rel => exact ⟨es, A6, A7, c6, c7, cnt, lb, R, rfl, rfl, hD.out, HE.out⟩
  case rest =>
    obtain ⟨es, A6, A7, c6, c7, cnt, lb, R, rfl, rfl, hA⟩ := hcut
    obtain ⟨w3, rfl⟩ : ∃ w3, w3 = wc := ⟨_, rfl⟩
    obtain ⟨⟨K, hP⟩, _, hL, hl4⟩ := hA.out.1
    have he20 : (es.length : Int) ≤ 20 := by have := hA.out.2; omega
    have hl6 : (ats es).length = es.length := by simp [ats]
    have hl7 : (kepts es).length = es.length := by simp [kepts]
    have T6 := Lib.hid (ttab_of_sl (w := w3) (A := A6) (c := c6) (xs := ats es) (by rw [hl6]; exact hP.s6))
    have T7 := Lib.hid (ttab_of_sl (w := w3) (A := A7) (c := c7) (xs := kepts es) (by rw [hl7]; exact hP.s7))
    have HO := Lib.hid (wOut_any hP.wn.1)
    obtain ⟨S, hS0⟩ : ∃ S : ByteArray, (⟨lb.toArray⟩ : ByteArray) = S := ⟨_, rfl⟩
    have hSd : S.data.toList = lb := by subst hS0; rfl
    have hSz : S.size = lb.length := by rw [← hSd]; simp
    have hSI : (S.size : Int) ≤ 40000 := by omega
    rw [hS0] at HO
    have HL := Lib.hid hL
    have HS := Lib.hid (And.intro hSd (And.intro hSz hl4))
    have HBL := Lib.hid hP.bl
    have HP := Lib.hid (rOpen_any S w3)
    clear hP hl6 hl7 hSd hSz hS0 hl4 hL hA
    go_wp2_with (fail)
    with_reducible refine HO.out.mono ?_
    rintro e wz ⟨rfl, rfl⟩
    clear HO
    go_wp2_with (fail)
    with_reducible refine HP.out.mono ?_
    rintro e w4 ⟨rfl, h, hb4⟩
    obtain ⟨rb, hrb⟩ : ∃ rb, w3.heap.size = rb := ⟨_, rfl⟩
    rw [hrb] at h ⊢
    have F4 := Lib.hid (And.intro h (And.intro hb4 (And.intro (HBL.out.trans (hb4.mono HBL.out.size)) (And.intro hrb (show w.heap.size ≤ rb by rw [← hrb]; exact HBL.out.size)))))
    clear h hb4 HP hrb
    go_wp2_with (fail)
    go_loopg [102] es.length (fun gg v102 wz => ∃ j : Nat, v102 = .int .i64 (j : Int) ∧ Aside (gg + j = es.length) ∧ Aside (Rd wz rb S (posAt es lb.length j) false ∧ But rb w4 wz))
    case atStart => exact ⟨0, rfl, (by show _ = _; omega), (by rw [HL.out.1]; exact F4.out.1), But.refl _ _⟩
    case round =>
      obtain ⟨j, rfl, hgj, hz⟩ := hrel
      by_cases hj : j < es.length
      · have hjI : (j : Int) < (es.length : Int) := by omega
        obtain ⟨⟨a, i⟩, he⟩ : ∃ e, es[j]? = some e := ⟨_, List.getElem?_eq_getElem hj⟩
        obtain ⟨hit, t, d, ht, hd, hle1, hle2, hrd⟩ := HL.out.2 j _ he
        have hpj := posAt_at (q := lb.length) he
        dsimp only at hit ht hd hle1 hrd hpj
        obtain ⟨q, hq⟩ : ∃ q, posAt es lb.length (j + 1) = q := ⟨_, rfl⟩
        rw [hq] at hle1 hle2 hrd
        have HRz := hz.out.1
        rw [hpj] at HRz
        have HRZ := Lib.hid HRz
        have hBw : Below w.heap.size w wr := F4.out.2.2.1.trans (But.below hz.out.2 F4.out.2.2.2.2 F4.out.2.2.1.size)
        have hk3 : ∀ g, g < w3.heap.size → ∀ o, wr.cell? ⟨g, o, none⟩ = w3.cell? ⟨g, o, none⟩ := fun g hg o =>
          (hz.out.2.cell (p := ⟨g, o, none⟩) ⟨Nat.lt_of_lt_of_le hg F4.out.2.1.size, by have := F4.out.2.2.2.1; show g ≠ rb; omega⟩).trans (F4.out.2.1.cell (p := ⟨g, o, none⟩) hg)
        obtain ⟨g6, o6, rfl, hlt6, hc6⟩ := T6.out.at (ats_at he)
        obtain ⟨g7, o7, rfl, hlt7, hc7⟩ := T7.out.at (kepts_at he)
        obtain ⟨b1, o1, rfl, hlt1, hc1⟩ := HT.out.1.at (j := i) (u := .int .u16 t) (by rw [List.getElem?_map, ht]; rfl)
        obtain ⟨b0, o0, rfl, hlt0, hc0⟩ := HT.out.2.1.at (j := i) (u := .string d) (by rw [List.getElem?_map, hd]; rfl)
        have e6 : wr.cell? ⟨g6, o6 + j, none⟩ = some (.int .i64 (a : Int)) := (hk3 g6 hlt6 _).trans hc6
        have e7 : wr.cell? ⟨g7, o7 + j, none⟩ = some (.int .i64 (i : Int)) := (hk3 g7 hlt7 _).trans hc7
        have e1 : wr.cell? ⟨b1, o1 + i, none⟩ = some (.int .u16 t) := (hBw.cell (p := ⟨b1, o1 + i, none⟩) hlt1).trans hc1
        have e0 : wr.cell? ⟨b0, o0 + i, none⟩ = some (.string d) := (hBw.cell (p := ⟨b0, o0 + i, none⟩) hlt0).trans hc0
        have hiI : (i : Int) < (ts.length : Int) := by omega
        have hidI : (i : Int) < (ds.length : Int) := by have := (List.getElem?_eq_some_iff.1 hd).1; omega
        have hnext : ∀ e2, es[j + 1]? = some e2 → e2.1 = q ∧ wr.cell? ⟨g6, o6 + (j + 1), none⟩ = some (.int .i64 (q : Int)) := fun e2 h2 => by
          have h3 := posAt_at (q := lb.length) h2
          rw [hq] at h3
          obtain ⟨g6', o6', hA6, hlt6', hc6'⟩ := T6.out.at (ats_at h2)
          injection hA6 with hA6
          injection hA6 with hg1 ho1
          subst hg1 ho1
          exact ⟨h3.symm, by rw [h3]; exact (hk3 g6 hlt6' _).trans hc6'⟩
        have hlast : es.length ≤ j + 1 → lb.length = q := fun h3 => by
          rw [← hq, show j + 1 = es.length by omega, laid_end]
        have hS2 := HS.out
        obtain ⟨n, hn⟩ : ∃ n, q - a = n := ⟨_, rfl⟩
        have HJ := Lib.hid (And.intro hj (And.intro hn (And.intro hle1 (And.intro hle2 (And.intro hrd (And.intro hnext hlast))))))
        have HCK := Lib.hid (And.intro hBw (And.intro hlt1 (And.intro hlt0 (And.intro hc1 hc0))))
        have hqI : (q : Int) ≤ 40000 := by omega
        have haI : (a : Int) ≤ (q : Int) := by omega
        have hwr : IntKind.i64.wrap ((q : Int) - (a : Int)) = (n : Int) := by rw [IntWalk.i64_in _ (by omega)]; omega
        have hHQ := Lib.hid hq
        clear hj he hit ht hd hle1 hle2 hrd hpj hq HRz hBw hk3 hc6 hc7 hc1 hc0 hnext hlast hS2 hn
        go_upto_if 113 with (fail)
        go_cut [16] (fun v16 wx => v16 = .int .i64 (q : Int) ∧ wx = wr)
        case first =>
          by_cases hj1 : j + 1 < es.length
          · have hj1I : (j : Int) + 1 < (es.length : Int) := by omega
            have hj1N : ((j + 1 : Nat) : Int) = (j : Int) + 1 := by omega
            obtain ⟨e2, he2⟩ : ∃ e2, es[j + 1]? = some e2 := ⟨_, List.getElem?_eq_getElem hj1⟩
            have e62 := (HJ.out.2.2.2.2.2.1 e2 he2).2
            clear hj1 he2
            go_wp2_with (fail)
            go_meet
            case rel => exact ⟨rfl, rfl⟩
          · have hj1I : ¬ (j : Int) + 1 < (es.length : Int) := by omega
            have hlq := HJ.out.2.2.2.2.2.2 (by omega)
            have hsq : S.size = q := by rw [HS.out.2.1]; exact hlq
            clear hj1
            go_wp2_with (fail)
            go_meet
            case rel => exact ⟨rfl, rfl⟩
        case rest =>
          obtain ⟨rfl, hwc⟩ := hcut
          subst hwc
          have HRD : RowKit.Hid (∀ W, Rd W rb S a false → Calls Try.prog 64 #[.pointer (some ⟨rb, 0, none⟩), .int .u16 t, .int .i64 (n : Int)] W fun e w' => e = .returned (.tuple #[.string d, .int .i64 0]) ∧ Rd w' rb S q false ∧ But rb W w') := Lib.hid (fun W hW => (rdRead_any t n hW (by have := HS.out; omega) (by have := HS.out; have := HJ.out; omega)).mono (by
            rintro e w' ⟨hq, hr, hb⟩
            have hrd := HJ.out.2.2.2.2.1
            rw [HJ.out.2.1] at hrd
            rw [HS.out.1, hrd] at hq
            rw [show a + n = q by have := HJ.out; omega] at hr
            refine ⟨?_, hr, hb⟩
            rcases hq with ⟨hq, _⟩ | ⟨d', hq, he⟩
            · cases hq
            · injection hq with hq
              subst hq
              exact he))
          go_upto_region 30 with (fail)
          go_cut [17, 18] (fun v17 v18 wx => v17 = .string d ∧ v18 = .int .i64 0 ∧ Aside (Rd wx rb S q false ∧ But rb wc wx))
          case first =>
            go_wp2_with (fail)
            go_region_with (go_at_call 64; refine (HRD.out _ (show Rd _ rb S a false from Blk.drew HRZ.out)).mono ?_; rintro e w5 ⟨rfl, hr5, hb5⟩)
            all_goals
              try go_wp2_with (fail)
              go_meet
              case rel => exact ⟨rfl, rfl, hr5, (show But rb _ _ from (KeepK.drew (KeepK.refl _ _)).trans hb5)⟩
          case rest =>
            obtain ⟨rfl, rfl, hR5⟩ := hcut
            obtain ⟨w5, hw5⟩ : ∃ w5, w5 = wc := ⟨_, rfl⟩
            subst hw5
            have hB5 : Below w.heap.size w w5 := HCK.out.1.trans (But.below hR5.out.2 F4.out.2.2.2.2 HCK.out.1.size)
            have hr1 : w5.cell? ⟨b1, o1 + i, none⟩ = some (.int .u16 t) := (hB5.cell (p := ⟨b1, o1 + i, none⟩) HCK.out.2.1).trans HCK.out.2.2.2.1
            have hr0 : w5.cell? ⟨b0, o0 + i, none⟩ = some (.string d) := (hB5.cell (p := ⟨b0, o0 + i, none⟩) HCK.out.2.2.1).trans HCK.out.2.2.2.2
            have hd4 := readD_le HJ.out.2.2.2.2.1
            have hds : d.data.toList.length = d.size := by simp
            have HN := Lib.hid (names_any t d (by omega) w5)
            unfold NamesPost at HN
            obtain ⟨ns, hns⟩ : ∃ ns, ((lookN t d.data.toList).map (·.2.1)).getD [] = ns := ⟨_, rfl⟩
            have hall : ∀ n ∈ ns, isName n = true := by
              intro n hn
              rw [← hns] at hn
              cases hq : lookN t d.data.toList with
              | none => rw [hq] at hn; cases hn
              | some p => rw [hq] at hn; exact look_names hq n hn
            rw [hns] at HN
            have HALL := Lib.hid hall
            clear e0 e1 e6 e7 hB5 hd4 hds hns hall HRD
            go_wp2_with (fail)
            with_reducible refine HN.out.mono ?_
            rintro e w6 ⟨A8, c8, rfl, hS8, _, hb6⟩
            have hnl : (ns.length : Int) ≤ 9223372036854775807 := by
              obtain ⟨_, _, _, hsc, hsm⟩ := hS8.shape
              unfold maxLen at hsm; omega
            have HTN := Lib.hid (ttab_of_sl (w := w6) (A := A8) (c := c8) (xs := strs ns) (by rw [show (strs ns).length = ns.length by simp [strs]]; exact hS8))
            have H6 := Lib.hid hb6
            clear hS8 hb6 HN
            go_wp2_with (fail)
            go_loopg [151] ns.length (fun gg v151 wy => ∃ m : Nat, v151 = .int .i64 (m : Int) ∧ Aside (gg + m = ns.length) ∧ Aside (Below w6.heap.size w6 wy))
            case atStart => exact ⟨0, rfl, (by show _ = _; omega), Below.refl _ _⟩
            case round =>
              obtain ⟨m, rfl, hgm, hbm⟩ := hrel
              by_cases hm : m < ns.length
              · have hmI : (m : Int) < (ns.length : Int) := by omega
                obtain ⟨x, hx⟩ : ∃ x, ns[m]? = some x := ⟨_, List.getElem?_eq_getElem hm⟩
                obtain ⟨b8, o8, rfl, hlt8, hc8⟩ := HTN.out.at (strs_at hx)
                have e8 : wr.cell? ⟨b8, o8 + m, none⟩ = some (.string ⟨x.toArray⟩) := (hbm.out.cell (p := ⟨b8, o8 + m, none⟩) hlt8).trans hc8
                have hxn := HALL.out x (List.mem_of_getElem? hx)
                have hxs : (⟨x.toArray⟩ : ByteArray).size ≤ 255 := by have := ((isName_iff _).1 hxn).1; show x.toArray.size ≤ 255; simpa using this
                obtain ⟨X, hX⟩ : ∃ X : ByteArray, (⟨x.toArray⟩ : ByteArray) = X := ⟨_, rfl⟩
                have HCX := Lib.hid (fun W => Check_any X (by rw [← hX]; unfold maxLen; omega) W)
                have hXd : X.data.toList = x := by subst hX; rfl
                have hck : chkN x = 0 := by unfold chkN; rw [if_pos hxn]
                rw [hXd, hck] at HCX
                rw [hX] at e8
                have HM := Lib.hid hm
                clear hx hxn hxs hX hXd hck hc8 hm
                go_wp2_with (fail)
                with_reducible refine (HCX.out _).mono ?_
                rintro e w7 ⟨rfl, hb7⟩
                have H7 := Lib.hid (hbm.out.trans (hb7.mono hbm.out.size))
                clear hb7 HCX
                go_wp2_with (fail)
                go_roundg (ns.length - (m + 1))
                case measure => have := hgm.out; have := HM.out; omega
                case rel => exact ⟨m + 1, by go_num, (by show _ = _; have := hgm.out; have := HM.out; omega), H7.out⟩
              · have hmI : ¬ (m : Int) < (ns.length : Int) := by omega
                clear hm
                go_wp2_with (fail)
                go_roundg (es.length - (j + 1))
                case measure => have := hgj.out; have := HJ.out.1; omega
                case rel =>
                  have hb9 : Below w5.heap.size w5 wr := H6.out.trans (hbm.out.mono H6.out.size)
                  exact ⟨j + 1, by go_num, (by show _ = _; have := hgj.out; have := HJ.out.1; omega), by rw [hHQ.out]; exact Blk.below hR5.out.1 hb9 hR5.out.1.lt, But.trans (But.trans hz.out.2 hR5.out.2) (But.of_below hb9)⟩
      · have hjI : ¬ (j : Int) < (es.length : Int) := by omega
        have hpe : posAt es lb.length j = lb.length := by rw [show j = es.length by have := hgj.out; omega]; exact laid_end es _
        have HRz := hz.out.1
        rw [hpe] at HRz
        have HLE := Lib.hid (rLeft_any HRz (by have := HS.out; omega) (by have := HS.out; omega))
        rw [HS.out.2.1, Nat.sub_self] at HLE
        have HBD := Lib.hid (fun kk => rBad_any (w := wr.drewN kk) (Blk.drewN HRz kk))
        have HFIN := Lib.hid (F4.out.2.2.1.trans (But.below hz.out.2 F4.out.2.2.2.2 F4.out.2.2.1.size))
        clear hj hpe HRz
        go_wp2_with (fail)
        refine HLE.out.mono ?_
        rintro e wy ⟨rfl, kk, rfl⟩
        go_wp2_with (fail)
        with_reducible refine (HBD.out _).mono ?_
        rintro e wy ⟨rfl, rfl⟩
        go_wp2_with (fail)
        go_ret
        exact ⟨rfl, below_drewN HFIN.out _⟩
end Go.Proofs.Ytkjefohkhdadaaa
