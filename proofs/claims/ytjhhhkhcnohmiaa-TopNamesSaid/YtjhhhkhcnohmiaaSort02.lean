/- The walk of package walk's Sort. -/
import Derived.Test.YtjhhhkhcnohmiaaSortM
namespace Go.Proofs.Ytjhhhkhcnohmiaa
open Go.RowKit Go.Lib

set_option maxRecDepth 100000 in
set_option maxHeartbeats 4000000 in
theorem Sort_any {m : Nat} (hm : StableOk m) (xs : List ByteArray) (A : Option Addr) (c : Nat) (w : World) (hA : TTab w A (xs.map Value.string)) (hx : ∀ x ∈ xs, x.size ≤ 1000000) (hl : xs.length ≤ m) (hl2 : xs.length ≤ 1000) :
    Calls Try.prog 44 #[.slice A xs.length c] w (CollPost (sortN (xs.map fun x => x.data.toList)) w) := by
  obtain ⟨i0, hi0, hz0, hz1, hz2⟩ := info_parts info_pl
  obtain ⟨j0, hj0, hy0, hy1, hy2⟩ := info_parts info_str
  have hlI : (xs.length : Int) ≤ 1000 := by omega
  have HX := Lib.hid (And.intro hx (And.intro hl hl2))
  have HA := Lib.hid hA
  have HM := Lib.hid hm
  clear hx hA hm hl hl2
  go_enter Try.func44, Try.ntmps44
  go_wp2_with (fail)
  go_loopg [3, 5, 11] xs.length (fun gg v3 _ v11 wr => ∃ (k : Nat) (ps : List Pl), v11 = .int .i64 (k : Int) ∧ Aside (gg + k = xs.length) ∧ Aside (Sl wr 2 v3 ps.length (plC ps)) ∧ Aside (PlV wr v3 w.heap.size ps) ∧ Aside (ps.map Pl.n = ((xs.take k).map fun x => x.data.toList).filter isName ∧ ∀ p ∈ ps, p.L = ris p.n) ∧ Aside (Below w.heap.size w wr))
  case atStart =>
    exact ⟨0, [], rfl, (by show _ + 0 = _; rfl), Sl.nil _ _, ⟨fun g hg => by simp [Value.ownBlock] at hg, fun p hp => absurd hp List.not_mem_nil⟩, ⟨rfl, fun p hp => absurd hp List.not_mem_nil⟩, Below.refl _ _⟩
  case round =>
    obtain ⟨k, ps, rfl, hg, hS, hP, hN, hB⟩ := hrel
    obtain ⟨A3, c3, rfl, hc1, hc2⟩ := hS.out.shape
    have hpl : ps.length ≤ k := by
      have h1 := congrArg List.length hN.out.1
      rw [List.length_map] at h1
      have h2 := List.length_filter_le isName ((xs.take k).map fun x => x.data.toList)
      rw [List.length_map, List.length_take] at h2
      omega
    by_cases hlt : k < xs.length
    · obtain ⟨b0, o, rfl, hal, hac⟩ := HA.out (by rw [List.length_map]; omega)
      obtain ⟨x, hxk⟩ : ∃ x, xs[k]? = some x := ⟨_, List.getElem?_eq_getElem hlt⟩
      have a0 : wr.cell? ⟨b0, o + k, none⟩ = some (.string x) := (hB.out.cell (p := ⟨b0, o + k, none⟩) hal).trans (hac k _ (by rw [List.getElem?_map, hxk]; rfl))
      have hltI : (k : Int) < (xs.length : Int) := by omega
      have hxm : x ∈ xs := List.mem_of_getElem? hxk
      have hxs := HX.out.1 x hxm
      have hk1000 := HX.out.2.2
      have HC := Lib.hid (fun W => Check_any x (by unfold maxLen; omega) W)
      have HR := Lib.hid (fun W => rising_any x hxs W)
      have htk : (xs.take (k + 1)).map (fun x => x.data.toList) = ((xs.take k).map fun x => x.data.toList) ++ [x.data.toList] := by
        obtain ⟨q1, q2⟩ := List.getElem?_eq_some_iff.1 hxk
        rw [List.take_succ_eq_append_getElem q1, q2, List.map_append]; rfl
      have hrl : (ris x.data.toList).length ≤ 1000000 := by
        have h1 := ris_len x.data.toList
        simp at h1
        omega
      rcases chk_cases x.data.toList with ⟨hn1, hn2⟩ | ⟨hn1, hn2⟩
      · rw [hn2] at HC
        have HT := Lib.hid (And.intro htk (And.intro hn1 hrl))
        have hpl2 : ps.length ≤ 1000 := by omega
        clear hac hxk hxm hn2 htk hn1 hrl hxs
        go_wp2_with (fail)
        refine (HC.out _).mono ?_
        rintro e w1 ⟨rfl, hb⟩
        have B1 := Lib.hid hb
        clear hb
        go_wp2_with (fail)
        refine (HR.out _).mono ?_
        rintro e w2 ⟨A2, c2, rfl, h1, h2, h3⟩
        have B2 := Lib.hid (B1.out.trans (h3.mono B1.out.size))
        have hbz := B1.out.size
        have hS2 := hS.out.below B2.out hS.out.lt
        have HP := Lib.hid (And.intro hP.out (And.intro h1 (And.intro (fun g hg => Nat.le_trans hbz (h2 g hg)) hS.out)))
        have HSL := Lib.hid (hS2.alloc (.cells #[.string x, .slice A2 (ris x.data.toList).length c2] 80))
        have HSR := Lib.hid (src_pl (P := Try.prog) Try.underlying78 w2 80 (.string x) (.slice A2 (ris x.data.toList).length c2) rfl rfl)
        clear h1 h2 h3 hbz hS2
        go_wp2_with (at_builtin; go_must (refine wpList_append_sl _ rfl (.tmp 18) (.tmp 23) 78 78 rfl 80 i0 (.agg #[.string ⟨#[]⟩, .slice none 0 0]) 2 40 Try.underlying78 hi0 hz0 hz1 hz2 rfl (.slice A3 ps.length c3) ps.length (plC ps) rfl HSL.out _ rfl 1 [.string x, .slice A2 (ris x.data.toList).length c2] HSR.out (by unfold maxLen; omega) (by omega) ?_); intro v4 w4 hs4 hg4 hv4; obtain ⟨A4, c4, rfl, hc4, hm4⟩ := hs4.shape; have H4 := Lib.hid (And.intro hs4 (And.intro hg4 hv4)); clear hs4 hg4 hv4 hc4 hm4)
        obtain ⟨hs4, hg4, hv4⟩ := H4.out
        go_roundg (xs.length - (k + 1))
        case measure => have := hg.out; omega
        case rel =>
          obtain ⟨hP1, h1, h2, hS0⟩ := HP.out
          obtain ⟨htk, hn1, hrl⟩ := HT.out
          have hadd := plv_add (p := ⟨x, A2, c2, ris x.data.toList⟩) (B := w.heap.size) hP1 hS0 B2.out hB.out.size h1 h2 hrl hg4 hv4
          have hbz := hB.out.size
          have hb2z := B2.out.size
          refine ⟨k + 1, ps ++ [⟨x, A2, c2, ris x.data.toList⟩], by go_num, (by show _ = _; omega), ?_, ?_, ⟨?_, ?_⟩, ?_⟩
          · show Sl _ _ _ _ _
            rw [plC_append, List.length_append]
            exact hs4
          · exact hadd
          · rw [List.map_append, hN.out.1, htk, List.filter_append]
            congr 1
            show [x.data.toList] = _
            simp [hn1]
          · intro p hp
            rcases List.mem_append.1 hp with hp | hp
            · exact hN.out.2 p hp
            · rw [List.mem_singleton.1 hp]; rfl
          · exact ((hB.out.trans (B2.out.mono hbz)).alloc (by omega) _).grown hg4 (by simp; omega) (fun g hg => hP1.1 g hg)
      · rw [hn2] at HC
        have HT := Lib.hid (And.intro htk hn1)
        clear hac hxk hxm hn2 htk hn1 hrl hxs
        go_wp2_with (fail)
        refine (HC.out _).mono ?_
        rintro e w1 ⟨rfl, hb⟩
        have B1 := Lib.hid hb
        clear hb
        go_wp2_with (fail)
        go_roundg (xs.length - (k + 1))
        case measure => have := hg.out; omega
        case rel =>
          obtain ⟨htk, hn1⟩ := HT.out
          refine ⟨k + 1, ps, by go_num, (by show _ = _; omega), hS.out.below B1.out hS.out.lt, ⟨hP.out.1, fun p hp => ⟨(hP.out.2 p hp).1.below B1.out, (hP.out.2 p hp).2⟩⟩, ⟨?_, hN.out.2⟩, hB.out.trans (B1.out.mono hB.out.size)⟩
          rw [hN.out.1, htk, List.filter_append]
          simp [hn1]
    · obtain rfl : k = xs.length := by have := hg.out; omega
      have hsort := sorted_any HM.out A3 c3 w.heap.size ps wr hS.out hP.out (Nat.le_trans hpl HX.out.2.1) (by have := HX.out.2.2; omega)
      have HSO := Lib.hid hsort
      have hN0 := hN.out
      rw [List.take_length] at hN0
      have HN := Lib.hid hN0
      clear hsort hlt hN0
      go_wp2_with (fail)
      refine HSO.out.mono ?_
      rintro e w2 ⟨rfl, P', hp1, hp2, hp3, hp4⟩
      have hfin := sortN_of HN.out.1 HN.out.2 hp1 hp2
      have hPlen := hp2.len
      have HF := Lib.hid (And.intro hfin hPlen)
      have hown := hP.out.1
      have hbw2 : Below w.heap.size w w2 := hB.out.trans (hp4.below fun i hi => ⟨Nat.lt_of_lt_of_le hi hB.out.size, fun e => by have := hown i e; omega⟩)
      have hP2 : ∀ p ∈ P', TTab w2 p.A (strs p.L) ∧ p.L.length ≤ 1000000 := fun p hp => by
        obtain ⟨h1, h2, h3⟩ := hP.out.2 p (hp2.mem hp)
        refine ⟨fun hn => ?_, h3⟩
        obtain ⟨b, o', hA', hlt, hc⟩ := h1 hn
        rw [strs_len] at hn
        refine ⟨b, o', hA', Nat.lt_of_lt_of_le hlt hp4.size, fun j u hu => ?_⟩
        rw [World.cell?_of_block (a := ⟨b, o' + j, none⟩) (hp4.block b ⟨hlt, h2 _ hA' hn⟩)]
        exact hc j u hu
      have HP2 := Lib.hid (And.intro hP2 (And.intro hp3 (And.intro hbw2 hown)))
      have hnI : (ps.length : Int) ≤ 1000 := by omega
      clear hp1 hp2 hp3 hp4 hfin hPlen hbw2 hP2 hown HSO hS hP hB hN
      go_wp2_with (fail)
      go_loopg [6, 7, 8, 30] ps.length (fun gg v6 _ _ v30 wq => ∃ (i : Nat), v30 = .int .i64 (i : Int) ∧ Aside (gg + i = ps.length) ∧ Aside (Sl wq 1 v6 ((ddF Pl.L none (P'.take i)).map Pl.n).length (strs ((ddF Pl.L none (P'.take i)).map Pl.n))) ∧ Aside (∀ g, v6.ownBlock = some g → w2.heap.size ≤ g) ∧ Aside (Below w2.heap.size w2 wq))
      case atStart =>
        exact ⟨0, rfl, (by show _ + 0 = _; rfl), Sl.nil _ _, (show Aside _ from fun g hg => by simp [Value.ownBlock] at hg), Below.refl _ _⟩
      case round =>
        obtain ⟨i, rfl, hg, hS6, ho6, hB6⟩ := hrel
        obtain ⟨D, hD⟩ : ∃ D, (ddF Pl.L none (P'.take i)).map Pl.n = D := ⟨_, rfl⟩
        have hS6' := hS6.out
        rw [hD] at hS6'
        obtain ⟨A6, c6, rfl, hc61, hc62⟩ := hS6'.shape
        have hS7 := Lib.hid hS6'
        have HD := Lib.hid hD
        have hDl : D.length ≤ 1000 := by
          have h1 := ddF_length Pl.L (P'.take i) none
          rw [← hD, List.length_map]
          rw [List.length_take] at h1
          have h2 := hg.out
          omega
        clear hD hS6' hS6
        by_cases hlt : i < ps.length
        · obtain ⟨p, hpi⟩ : ∃ p, P'[i]? = some p := ⟨_, List.getElem?_eq_getElem (by rw [HF.out.2]; exact hlt)⟩
          have hSw := HP2.out.2.1.below hB6.out HP2.out.2.1.lt
          obtain ⟨g, cap, hv, hgl, hgc, hgm, hcell⟩ := hSw.form (by omega)
          injection hv with hA3 _ hc3
          subst hA3 hc3
          have c0 : wr.cell? ⟨g, i * 2, none⟩ = some (.string p.nm) := hcell _ _ (plC_0 hpi)
          have c1 : wr.cell? ⟨g, i * 2 + 1, none⟩ = some (.slice p.A p.L.length p.c) := hcell _ _ (plC_1 hpi)
          have hltI : (i : Int) < (ps.length : Int) := by omega
          have hsn := ddF_snoc Pl.L p (P'.take i) none
          have htk : P'.take (i + 1) = P'.take i ++ [p] := by
            obtain ⟨q1, q2⟩ := List.getElem?_eq_some_iff.1 hpi
            rw [List.take_succ_eq_append_getElem q1, q2]
          rw [← htk] at hsn
          have HPI := Lib.hid (And.intro hpi htk)
          rcases Nat.eq_zero_or_pos i with hi0 | hi0
          · have hsn0 : ddF Pl.L none (P'.take (i + 1)) = ddF Pl.L none (P'.take i) ++ [p] := by rw [hsn, hi0]; rfl
            have hi1 : ((i : Int) == 0) = true := by rw [beq_iff_eq]; omega
            have hi2 : (i == 0) = true := by rw [beq_iff_eq]; omega
            have HSN := Lib.hid hsn0
            clear hcell hSw hgc hgm hsn htk hpi hsn0 hc61 hi0
            go_wp2_with (fail)
            go_quiet (fail)
            have hsn := HSN.out
            obtain ⟨V, hV⟩ : ∃ V, (wr.alloc (.cells #[.string p.nm, .slice p.A p.L.length p.c] 80)).drewN nq = V := ⟨_, rfl⟩
            have hbV : Below wr.heap.size wr V := by rw [← hV]; exact below_drewN ((Below.refl _ _).alloc (Nat.le_refl _) _) nq
            have hbox : Blk V wr.heap.size 80 #[.string p.nm, .slice p.A p.L.length p.c] := by rw [← hV]; exact Blk.new wr _ _
            have d0 := hbox.cell 0
            have hS6V := hS7.out.below hbV hS7.out.lt
            have HSL := Lib.hid (hS6V.alloc (.cells #[.string p.nm] 9))
            have HSR := Lib.hid (src_new (P := Try.prog) Try.underlying45 V 9 (.string p.nm) rfl)
            have HV := Lib.hid (And.intro hbV (And.intro hlt hsn))
            rw [hV]
            clear hV hbV hbox hS6V hsn c0 c1
            go_wp2_with (at_builtin; go_must (refine wpList_append_sl _ rfl (.tmp 49) (.tmp 52) 45 45 rfl 9 j0 (.string ⟨#[]⟩) 1 16 Try.underlying45 hj0 hy0 hy1 hy2 rfl (.slice A6 D.length c6) D.length (strs D) rfl HSL.out _ rfl 1 [.string p.nm] HSR.out (by unfold maxLen; omega) (by omega) ?_); intro v4 w4 hs4 hg4 hv4; obtain ⟨A4, c4, rfl, hc4, hm4⟩ := hs4.shape; have H4 := Lib.hid (And.intro hs4 (And.intro hg4 hv4)); clear hs4 hg4 hv4 hc4 hm4)
            obtain ⟨hs4, hg4, hv4⟩ := H4.out
            obtain ⟨hbV, hlt, hsn⟩ := HV.out
            go_roundg (ps.length - (i + 1))
            case measure => have := hg.out; omega
            case rel =>
              have hz6 := hB6.out.size
              have hzV := hbV.size
              have hDn : (ddF Pl.L none (P'.take (i + 1))).map Pl.n = D ++ [p.n] := by rw [hsn, List.map_append, HD.out]; rfl
              refine ⟨i + 1, by go_num, (by show _ = _; omega), ?_, ?_, ?_⟩
              · show Sl _ _ _ _ _
                rw [hDn, List.length_append, strs_snoc]
                exact hs4
              · exact own_from ho6.out (by simp; omega) hv4
              · exact ((hB6.out.trans (hbV.mono hz6)).alloc (by omega) _).grown hg4 (by simp; omega) (fun g hg => ho6.out g hg)
          · obtain ⟨q, hqi⟩ : ∃ q, P'[i - 1]? = some q := ⟨_, List.getElem?_eq_getElem (by rw [HF.out.2]; omega)⟩
            obtain ⟨r, hr⟩ : ∃ r, i - 1 = r := ⟨_, rfl⟩
            rw [hr] at hqi
            have e1 : wr.cell? ⟨g, r * 2 + 1, none⟩ = some (.slice q.A q.L.length q.c) := hcell _ _ (plC_1 hqi)
            have hlast : (P'.take i).getLast? = some q := by
              rw [List.getLast?_eq_getElem?, List.length_take, Nat.min_eq_left (by rw [HF.out.2]; omega), hr, List.getElem?_take_of_lt (by omega)]
              exact hqi
            rw [hlast] at hsn
            have hTp := HP2.out.1 p (List.mem_of_getElem? hpi)
            have hTq := HP2.out.1 q (List.mem_of_getElem? hqi)
            have hbx : Below w2.heap.size w2 (wr.alloc (.cells #[.string p.nm, .slice p.A p.L.length p.c] 80)) := hB6.out.alloc hB6.out.size _
            have hbx2 : ∀ n, Below w2.heap.size w2 ((wr.alloc (.cells #[.string p.nm, .slice p.A p.L.length p.c] 80)).drewN n) := fun n => below_drewN hbx n
            have HEQ := Lib.hid (fun n => equalL_any p.L q.L p.A q.A p.c q.c ((wr.alloc (.cells #[.string p.nm, .slice p.A p.L.length p.c] 80)).drewN n) (hTp.1.below (hbx2 n)) (hTq.1.below (hbx2 n)) hTp.2 hTq.2)
            have hi1 : ((i : Int) == 0) = false := by rw [beq_eq_false_iff_ne]; omega
            have hi2 : (i == 0) = false := by rw [beq_eq_false_iff_ne]; omega
            have hwr : IntKind.i64.wrap ((i : Int) - 1) = (r : Int) := by rw [IntKind.wrap_i64]; omega
            have hrI : (r : Int) < (ps.length : Int) := by omega
            have hiI : (i : Int) ≤ 1000 := by omega
            by_cases hpq : p.L = q.L
            · rw [decide_eq_true hpq] at HEQ
              rw [if_pos (by rw [hpq]), List.append_nil] at hsn
              have HSN := Lib.hid hsn
              have HW := Lib.hid hbx2
              clear hcell hSw hgc hgm hsn htk hpi hc61 hTp hTq hbx hbx2 hpq hlast hqi hr
              go_wp2_with (fail)
              go_quiet ((go_at_call 70; exact Calls.quiet_of (HEQ.out _)))
              clear hwr
              go_wp2_with (fail)
              go_roundg (ps.length - (i + 1))
              case measure => have := hg.out; omega
              case rel =>
                have hbV : Below wr.heap.size wr ((wr.alloc (.cells #[.string p.nm, .slice p.A p.L.length p.c] 80)).drewN nq) := below_drewN ((Below.refl _ _).alloc (Nat.le_refl _) _) nq
                refine ⟨i + 1, by go_num, (by show _ = _; have := hg.out; omega), ?_, ho6.out, HW.out nq⟩
                show Sl _ _ _ _ _
                rw [HSN.out, HD.out]
                exact hS7.out.below hbV hS7.out.lt
            · rw [decide_eq_false hpq] at HEQ
              rw [if_neg (by intro h; injection h with h; exact hpq h.symm)] at hsn
              have HSN := Lib.hid hsn
              have HW := Lib.hid hbx2
              clear hcell hSw hgc hgm hsn htk hpi hc61 hTp hTq hbx hbx2 hpq hlast hqi hr
              go_wp2_with (fail)
              go_quiet ((go_at_call 70; exact Calls.quiet_of (HEQ.out _)))
              clear hwr
              have hsn := HSN.out
              obtain ⟨V, hV⟩ : ∃ V, (wr.alloc (.cells #[.string p.nm, .slice p.A p.L.length p.c] 80)).drewN nq = V := ⟨_, rfl⟩
              have hbV : Below wr.heap.size wr V := by rw [← hV]; exact below_drewN ((Below.refl _ _).alloc (Nat.le_refl _) _) nq
              have hbox : Blk V wr.heap.size 80 #[.string p.nm, .slice p.A p.L.length p.c] := by rw [← hV]; exact Blk.new wr _ _
              have d0 := hbox.cell 0
              have hS6V := hS7.out.below hbV hS7.out.lt
              have HSL := Lib.hid (hS6V.alloc (.cells #[.string p.nm] 9))
              have HSR := Lib.hid (src_new (P := Try.prog) Try.underlying45 V 9 (.string p.nm) rfl)
              have HV := Lib.hid (And.intro hbV (And.intro hlt hsn))
              rw [hV]
              clear hV hbV hbox hS6V hsn c0 c1 e1
              go_wp2_with (at_builtin; go_must (refine wpList_append_sl _ rfl (.tmp 49) (.tmp 52) 45 45 rfl 9 j0 (.string ⟨#[]⟩) 1 16 Try.underlying45 hj0 hy0 hy1 hy2 rfl (.slice A6 D.length c6) D.length (strs D) rfl HSL.out _ rfl 1 [.string p.nm] HSR.out (by unfold maxLen; omega) (by omega) ?_); intro v4 w4 hs4 hg4 hv4; obtain ⟨A4, c4, rfl, hc4, hm4⟩ := hs4.shape; have H4 := Lib.hid (And.intro hs4 (And.intro hg4 hv4)); clear hs4 hg4 hv4 hc4 hm4)
              obtain ⟨hs4, hg4, hv4⟩ := H4.out
              obtain ⟨hbV, hlt, hsn⟩ := HV.out
              go_roundg (ps.length - (i + 1))
              case measure => have := hg.out; omega
              case rel =>
                have hz6 := hB6.out.size
                have hzV := hbV.size
                have hDn : (ddF Pl.L none (P'.take (i + 1))).map Pl.n = D ++ [p.n] := by rw [hsn, List.map_append, HD.out]; rfl
                refine ⟨i + 1, by go_num, (by show _ = _; omega), ?_, ?_, ?_⟩
                · show Sl _ _ _ _ _
                  rw [hDn, List.length_append, strs_snoc]
                  exact hs4
                · exact own_from ho6.out (by simp; omega) hv4
                · exact ((hB6.out.trans (hbV.mono hz6)).alloc (by omega) _).grown hg4 (by simp; omega) (fun g hg => ho6.out g hg)
        · obtain rfl : i = ps.length := by have := hg.out; omega
          have hfull := HF.out.1
          have hDS : D = sortN (xs.map fun x => x.data.toList) := by rw [← HD.out, ← HF.out.2, List.take_length, hfull]
          have H6 := Lib.hid hDS
          clear hfull hDS hlt hc61
          go_wp2_with (fail)
          go_ret
          have hbz := HP2.out.2.2.1.size
          rw [← H6.out]
          exact ⟨A6, c6, rfl, hS7.out, fun g hg => Nat.le_trans hbz (ho6.out g hg), HP2.out.2.2.1.trans (hB6.out.mono hbz)⟩
end Go.Proofs.Ytjhhhkhcnohmiaa
