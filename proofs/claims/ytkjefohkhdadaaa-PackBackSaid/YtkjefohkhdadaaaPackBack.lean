/- The walk of hardtacklaw03.PackBack: names that are written are read as they were, one by one; nothing is left. Conditions: none. -/
import Derived.Test.YtkjefohkhdadaaaLives03
import Derived.Test.YtkjefohkhdadaaaPackChain
namespace Go.Proofs.Ytkjefohkhdadaaa
open Go.RowKit Go.Lib

/-- What is known while names are written. -/
def BackR (ahead : ByteArray) (G : List ByteArray) (lb : Bs) (R : Rests) : Prop :=
  OkR lb R ∧ Chain lb ahead.size (G.map lbl) lb.length ∧ lb.take ahead.size = ahead.data.toList ∧ ahead.size ≤ lb.length
theorem back_start (ahead : ByteArray) : BackR ahead [] ahead.data.toList (fun _ => none) :=
  ⟨OkR.none _, by show ahead.size = _; simp, by rw [List.take_of_length_le (by simp)], by simp⟩
theorem back_more (pt : Bool) {ahead n : ByteArray} {G : List ByteArray} {lb : Bs} {R : Rests} (h : BackR ahead G lb R) (hn : gd n = true) :
    BackR ahead (G ++ [n]) (wname pt (labs n.data.toList).1 lb R).1 (wname pt (labs n.data.toList).1 lb R).2 ∧ (wname pt (labs n.data.toList).1 lb R).1.length ≤ lb.length + n.size := by
  obtain ⟨h1, h2, h3, h4⟩ := h
  obtain ⟨t, e, t1, t2, hE, hO⟩ := wname_more (pt := pt) (ls := lbl n) (labs_ok _) h1
  rw [e]
  refine ⟨⟨hO, ?_, ?_, by rw [List.length_append]; omega⟩, ?_⟩
  · rw [List.map_append]
    exact (h2.more t).snoc hE
  · rw [List.take_append_of_le_length h4, h3]
  · rw [gd_mk hn] at t2
    have : n.data.toList.length = n.size := by simp
    rw [List.length_append]; omega

set_option maxRecDepth 100000 in
set_option maxHeartbeats 16000000 in
theorem packBack_law (w : World) (ahead : ByteArray) (A : Option Addr) (xs : List ByteArray) (c : Nat) (A2 : Option Addr) (bs : List Bool) (c2 : Nat) (_hs : ahead.size ≤ maxLen) (hT : TTab w A (xs.map Value.string)) (hx : ∀ x ∈ xs, x.size ≤ maxLen) (hc : xs.length ≤ c) (hm : c ≤ maxLen) (hT2 : TTab w A2 (bs.map Value.bool)) (hc2 : bs.length ≤ c2) (hm2 : c2 ≤ maxLen) :
    Calls Try.prog 3 #[.string ahead, .slice A xs.length c, .slice A2 bs.length c2] w fun e w' => e = .returned (.bool true) ∧ Below w.heap.size w w' := by
  obtain ⟨i0, hi0, hz0, hz1, hz2⟩ := info_parts info_str
  have HL := Lib.hid (lives03 w)
  have HT := Lib.hid (And.intro hT (And.intro hx (And.intro hT2 (And.intro (show bs.length ≤ maxLen by omega) (show xs.length ≤ maxLen by omega)))))
  have hbl : (bs.length : Int) ≤ 9223372036854775807 := by unfold maxLen at hm2; omega
  clear hT hx hc hm hT2 hc2 hm2
  go_enter Try.func3, Try.ntmps3
  go_wp2_with (fail)
  with_reducible refine HL.out.mono ?_
  rintro e w1 ⟨rfl, hb⟩
  have B1 := Lib.hid hb
  clear hb HL
  by_cases hbig : 4096 < ahead.size
  · have hI : decide (4096 < (ahead.size : Int)) = true := by simp; omega
    clear hbig
    go_wp2_with (fail)
    go_ret
    exact ⟨rfl, B1.out⟩
  by_cases hbig2 : 60 < xs.length
  · have hI : decide (4096 < (ahead.size : Int)) = false := by simp; omega
    have hI2 : decide (60 < (xs.length : Int)) = true := by simp; omega
    clear hbig hbig2
    go_wp2_with (fail)
    go_ret
    exact ⟨rfl, B1.out⟩
  have hI : decide (4096 < (ahead.size : Int)) = false := by simp; omega
  have hI2 : decide (60 < (xs.length : Int)) = false := by simp; omega
  have ha4 : (ahead.size : Int) ≤ 4096 := by omega
  have hx60 : (xs.length : Int) ≤ 60 := by omega
  have HM := Lib.hid (And.intro hbig hbig2)
  have HN := Lib.hid (wn_new 65536 w1)
  clear hbig hbig2
  go_wp2_with (fail)
  with_reducible refine HN.out.mono ?_
  rintro e w2 ⟨b, mb, rfl, h, hb⟩
  have HR := Lib.hid (raw_fits ahead h.1 (by simp; omega) (by decide))
  have F2 := Lib.hid (And.intro h (B1.out.trans (hb.mono B1.out.size)))
  clear h hb HN
  go_wp2_with (fail)
  with_reducible refine HR.out.mono ?_
  rintro e w3 ⟨rfl, h, hk⟩
  rw [List.nil_append] at h
  have F3 := Lib.hid (And.intro (F2.out.1.turn h hk) (F2.out.2.trans (hk.below fun i hi => .inl (Nat.lt_of_lt_of_le hi B1.out.size))))
  clear h hk HR F2
  go_wp2_with (fail)
  go_loopg [8, 9, 37] xs.length (fun gg v8 v9 v37 wr => ∃ (k m cnt : Nat) (G : List ByteArray) (A' : Option Addr) (c' : Nat) (lb : Bs) (R : Rests) (K : Nat → Prop), v37 = .int .i64 (k : Int) ∧ v8 = .int .i64 (m : Int) ∧ v9 = .slice A' G.length c' ∧
    Aside (gg + k = xs.length ∧ G = (xs.take k).filter gd ∧ G.length ≤ k ∧ lb.length ≤ m ∧ m ≤ 4096 + 255 * k ∧ cnt ≤ 255 * k) ∧ Aside (Sl wr 1 (.slice A' G.length c') G.length (G.map Value.string)) ∧ Aside (Wn K wr b mb cnt 65536 lb R) ∧
    Aside ((∀ i, i < w.heap.size → K i) ∧ ∀ i, (Value.slice A' G.length c').ownBlock = some i → K i ∧ w.heap.size ≤ i) ∧ Aside (Below w.heap.size w wr) ∧ Aside (BackR ahead G lb R))
  case atStart => exact ⟨0, ahead.size, 0, [], none, 0, ahead.data.toList, fun _ => none, fun i => i < w1.heap.size, rfl, rfl, rfl, ⟨by omega, rfl, Nat.le_refl _, by simp, by omega, Nat.le_refl _⟩, Sl.nil _ _, F3.out.1, ⟨fun i hi => Nat.lt_of_lt_of_le hi B1.out.size, fun i hi => by cases hi⟩, F3.out.2, back_start ahead⟩
  case round =>
    obtain ⟨k, m, cnt, G, A', c', lb, R, K, rfl, rfl, rfl, hg, hS, hW, hK, hb, hR⟩ := hrel
    by_cases hk : k < xs.length
    · have hkI : (k : Int) < (xs.length : Int) := by omega
      obtain ⟨n, hn⟩ : ∃ n, xs[k]? = some n := ⟨_, List.getElem?_eq_getElem hk⟩
      obtain ⟨b0, o0, rfl, hlt0, hc0⟩ := HT.out.1.at (j := k) (u := .string n) (by rw [List.getElem?_map, hn]; rfl)
      have e0 : wr.cell? ⟨b0, o0 + k, none⟩ = some (.string n) := (hb.out.cell (p := ⟨b0, o0 + k, none⟩) hlt0).trans hc0
      have hnm := HT.out.2.1 n (List.mem_of_getElem? hn)
      have htk : xs.take (k + 1) = xs.take k ++ [n] := by rw [List.take_add_one, hn]; rfl
      have HCK := Lib.hid (fun W => rCheck_any n hnm W)
      cases hgd : gd n with
      | false =>
        rw [chk_bad hgd] at HCK
        have HE := Lib.hid (And.intro htk (And.intro hgd hk))
        clear htk hgd hn hk hc0
        go_wp2_with (fail)
        with_reducible refine (HCK.out _).mono ?_
        rintro e w4 ⟨rfl, hb4⟩
        have F4 := Lib.hid (And.intro (hW.out.below hb4) (And.intro (hS.out.below hb4 fun i hi => hS.out.lt i hi) (hb.out.trans (hb4.mono hb.out.size))))
        clear hb4 HCK
        go_wp2_with (fail)
        go_roundg (xs.length - (k + 1))
        case measure => have := hg.out.1; have := HE.out.2.2; omega
        case rel => exact ⟨k + 1, m, cnt, G, A', c', lb, R, K, by go_num, rfl, rfl, ⟨by have := HE.out.2.2; omega, by rw [HE.out.1, List.filter_append, ← hg.out.2.1]; simp [HE.out.2.1], by have := hg.out; omega, hg.out.2.2.2.1, by have := hg.out; omega, by have := hg.out; omega⟩, F4.out.2.1, F4.out.1, hK.out, F4.out.2.2, hR.out⟩
      | true =>
        rw [chk_gd hgd] at HCK
        have hn255 := gd_size hgd
        have hnI : (n.size : Int) ≤ 255 := by omega
        have hGl : G.length ≤ 60 := by have := hg.out; omega
        have hm64 : m ≤ 4096 + 255 * 60 := by have := hg.out; omega
        have hmI : (m : Int) ≤ 20000 := by omega
        have HE := Lib.hid (And.intro htk (And.intro hgd (And.intro hk (And.intro hn255 hGl))))
        clear htk hgd hn hc0 hn255 hGl hm64
        go_wp2_with (fail)
        with_reducible refine (HCK.out _).mono ?_
        rintro e w4 ⟨rfl, hb4⟩
        have F4 := Lib.hid (And.intro (hW.out.below hb4) (And.intro (hS.out.below hb4 fun i hi => hS.out.lt i hi) (hb.out.trans (hb4.mono hb.out.size))))
        have HSL := Lib.hid (F4.out.2.1.alloc (.cells #[.string n] 9))
        have HSR := Lib.hid (src_new (P := Try.prog) Try.underlying22 w4 9 (.string n) rfl)
        clear hb4 HCK
        go_upto_region 16 with (at_builtin; go_must (refine wpList_append_sl _ rfl (.tmp 45) (.tmp 47) 22 22 rfl 9 i0 (.string ⟨#[]⟩) 1 16 Try.underlying22 hi0 hz0 hz1 hz2 rfl (.slice A' G.length c') G.length _ rfl HSL.out _ rfl 1 _ HSR.out (by have := HE.out.2.2.2.2; unfold maxLen; omega) (by have := HE.out.2.2.2.2; omega) ?_); intro v5 w5 hs5 hg5 hv5; obtain ⟨A5, c5, rfl, _, _⟩ := hs5.shape; have H5 := Lib.hid (And.intro hs5 (And.intro hg5 hv5)); clear hs5 hg5 hv5)
        obtain ⟨hs5, hg5, hv5⟩ := H5.out
        have hk5 : KeepK (fun i => i < w4.heap.size ∧ ¬ K i) w4 w5 := (((KeepK.refl _ w4).alloc (fun i hi => hi.1) _).grown hg5 (fun i hi => by have := hi.1; simp; omega) (fun i hi e => hi.2 (hK.out.2 i e.symm).1))
        have hsz5 : w4.heap.size < w5.heap.size := by have := hg5.size; simp at this; omega
        have hown5 : ∀ i, (Value.slice A5 (G.length + 1) c5).ownBlock = some i → (K i ∨ (w4.heap.size ≤ i ∧ i < w5.heap.size)) ∧ w.heap.size ≤ i := fun i hi => by
          rcases hv5 with e | e
          · exact ⟨.inl (hK.out.2 i (e.symm.trans hi)).1, (hK.out.2 i (e.symm.trans hi)).2⟩
          · rw [hi] at e
            have h1 : i = w4.heap.size + 1 := by simpa using e
            have h2 := F4.out.2.2.size
            exact ⟨.inr ⟨by omega, hs5.lt i hi⟩, by omega⟩
        have hb5 : Below w.heap.size w w5 := (F4.out.2.2.alloc F4.out.2.2.size _).grown hg5 (by have := F4.out.2.2.size; simp; omega) (fun i hi => (hK.out.2 i hi).2)
        have hS5 : Sl w5 1 (.slice A5 (G.length + 1) c5) (G.length + 1) ((G ++ [n]).map Value.string) := by rw [List.map_append]; exact hs5
        have F5 := Lib.hid (And.intro (F4.out.1.fresh hk5) (And.intro hS5 (And.intro (And.intro (fun i (hi : i < w.heap.size) => (.inl (hK.out.1 i hi) : K i ∨ (w4.heap.size ≤ i ∧ i < w5.heap.size))) hown5) hb5)))
        clear hs5 hg5 hv5 hk5 hsz5 hown5 hb5 hS5 H5 HSL HSR
        by_cases hkb : k < bs.length
        · have hkbI : (k : Int) < (bs.length : Int) := by omega
          obtain ⟨t, ht⟩ : ∃ t, bs[k]? = some t := ⟨_, List.getElem?_eq_getElem hkb⟩
          obtain ⟨b2, o2, rfl, hlt2, hc2⟩ := HT.out.2.2.1.at (j := k) (u := .bool t) (by rw [List.getElem?_map, ht]; rfl)
          have e2 : w5.cell? ⟨b2, o2 + k, none⟩ = some (.bool t) := (F5.out.2.2.2.cell (p := ⟨b2, o2 + k, none⟩) hlt2).trans hc2
          clear hkb ht hc2
          cases t with
          | true =>
            have HC := Lib.hid (wFull_any n HE.out.2.1 F5.out.1 (by have := hg.out; have := HE.out; omega) (by decide) (by have := hg.out; omega) (fun k p h => (hR.out.1 k p h).1))
            go_wp2_with (fail)
            with_reducible refine HC.out.mono ?_
            rintro e w6 ⟨rfl, ⟨c6, hc6, hw6⟩, hk6⟩
            have hB6 := back_more false hR.out HE.out.2.1
            have F6 := Lib.hid (And.intro hw6 (And.intro hc6 (And.intro hB6 (And.intro (F5.out.2.1.keepK hk6 fun i hi => (F5.out.2.2.1.2 i hi).1) (F5.out.2.2.2.trans (hk6.below F5.out.2.2.1.1))))))
            clear hw6 hc6 hB6 hk6 HC
            go_wp2_with (fail)
            go_roundg (xs.length - (k + 1))
            case measure => have := hg.out.1; have := HE.out.2.2.1; omega
            case rel => exact ⟨k + 1, m + n.size, c6, G ++ [n], A5, c5, _, _, _, by go_num, by go_num, by rw [List.length_append]; rfl, ⟨by have := hg.out.1; have := HE.out.2.2.1; omega, by rw [HE.out.1, List.filter_append, ← hg.out.2.1]; simp [HE.out.2.1], by have := hg.out; rw [List.length_append]; simp; omega, by have := F6.out.2.2.1.2; have := hg.out; omega, by have := hg.out; have := HE.out.2.2.2.1; omega, by have := F6.out.2.1; have := hg.out; omega⟩, by rw [List.length_append]; exact F6.out.2.2.2.1, F6.out.1, ⟨F5.out.2.2.1.1, by rw [List.length_append]; exact F5.out.2.2.1.2⟩, F6.out.2.2.2.2, F6.out.2.2.1.1⟩
          | false =>
            have HC := Lib.hid (wName_any n HE.out.2.1 F5.out.1 (by have := hg.out; have := HE.out; omega) (by decide) (by have := hg.out; omega) (fun k p h => (hR.out.1 k p h).1))
            go_wp2_with (fail)
            with_reducible refine HC.out.mono ?_
            rintro e w6 ⟨rfl, ⟨c6, hc6, hw6⟩, hk6⟩
            have hB6 := back_more true hR.out HE.out.2.1
            have F6 := Lib.hid (And.intro hw6 (And.intro hc6 (And.intro hB6 (And.intro (F5.out.2.1.keepK hk6 fun i hi => (F5.out.2.2.1.2 i hi).1) (F5.out.2.2.2.trans (hk6.below F5.out.2.2.1.1))))))
            clear hw6 hc6 hB6 hk6 HC
            go_wp2_with (fail)
            go_roundg (xs.length - (k + 1))
            case measure => have := hg.out.1; have := HE.out.2.2.1; omega
            case rel => exact ⟨k + 1, m + n.size, c6, G ++ [n], A5, c5, _, _, _, by go_num, by go_num, by rw [List.length_append]; rfl, ⟨by have := hg.out.1; have := HE.out.2.2.1; omega, by rw [HE.out.1, List.filter_append, ← hg.out.2.1]; simp [HE.out.2.1], by have := hg.out; rw [List.length_append]; simp; omega, by have := F6.out.2.2.1.2; have := hg.out; omega, by have := hg.out; have := HE.out.2.2.2.1; omega, by have := F6.out.2.1; have := hg.out; omega⟩, by rw [List.length_append]; exact F6.out.2.2.2.1, F6.out.1, ⟨F5.out.2.2.1.1, by rw [List.length_append]; exact F5.out.2.2.1.2⟩, F6.out.2.2.2.2, F6.out.2.2.1.1⟩
        · have hkbI : ¬ (k : Int) < (bs.length : Int) := by omega
          clear hkb
          · have HC := Lib.hid (wName_any n HE.out.2.1 F5.out.1 (by have := hg.out; have := HE.out; omega) (by decide) (by have := hg.out; omega) (fun k p h => (hR.out.1 k p h).1))
            go_wp2_with (fail)
            with_reducible refine HC.out.mono ?_
            rintro e w6 ⟨rfl, ⟨c6, hc6, hw6⟩, hk6⟩
            have hB6 := back_more true hR.out HE.out.2.1
            have F6 := Lib.hid (And.intro hw6 (And.intro hc6 (And.intro hB6 (And.intro (F5.out.2.1.keepK hk6 fun i hi => (F5.out.2.2.1.2 i hi).1) (F5.out.2.2.2.trans (hk6.below F5.out.2.2.1.1))))))
            clear hw6 hc6 hB6 hk6 HC
            go_wp2_with (fail)
            go_roundg (xs.length - (k + 1))
            case measure => have := hg.out.1; have := HE.out.2.2.1; omega
            case rel => exact ⟨k + 1, m + n.size, c6, G ++ [n], A5, c5, _, _, _, by go_num, by go_num, by rw [List.length_append]; rfl, ⟨by have := hg.out.1; have := HE.out.2.2.1; omega, by rw [HE.out.1, List.filter_append, ← hg.out.2.1]; simp [HE.out.2.1], by have := hg.out; rw [List.length_append]; simp; omega, by have := F6.out.2.2.1.2; have := hg.out; omega, by have := hg.out; have := HE.out.2.2.2.1; omega, by have := F6.out.2.1; have := hg.out; omega⟩, by rw [List.length_append]; exact F6.out.2.2.2.1, F6.out.1, ⟨F5.out.2.2.1.1, by rw [List.length_append]; exact F5.out.2.2.1.2⟩, F6.out.2.2.2.2, F6.out.2.2.1.1⟩
    · have hkI : ¬ (k : Int) < (xs.length : Int) := by omega
      have HO := Lib.hid (wOut_any hW.out.1)
      have hlbm : (lb.length : Int) ≤ (m : Int) := by have := hg.out; omega
      have hlbn : lb.length ≤ 30000 := by have := hg.out; omega
      have hGl : (G.length : Int) ≤ 60 := by have := hg.out; omega
      have hGd : ∀ n ∈ G, gd n = true := fun n hn => by rw [hg.out.2.1] at hn; exact (List.mem_filter.1 hn).2
      obtain ⟨S, hS0⟩ : ∃ S : ByteArray, (⟨lb.toArray⟩ : ByteArray) = S := ⟨_, rfl⟩
      have hSd : S.data.toList = lb := by subst hS0; rfl
      have hSz : S.size = lb.length := by rw [← hSd]; simp
      have hSI : (S.size : Int) ≤ (m : Int) := by rw [hSz]; exact hlbm
      have hdm : decide (m < S.size) = false := by simp; omega
      rw [hS0] at HO
      have hex : S.extract 0 (0 + ahead.size) = ahead := by
        have h1 : (S.extract 0 (0 + ahead.size)).data.toList = ahead.data.toList := by simp [hSd, hR.out.2.2.1]
        cases hX : S.extract 0 (0 + ahead.size); cases hY : ahead
        rw [hX, hY] at h1
        simp only at h1
        rw [Array.toList_inj.1 h1]
      have HS := Lib.hid (And.intro hSd (And.intro hSz (And.intro hlbn (And.intro hGd hex))))
      clear hk hlbm hlbn hGd hSd hSz hS0 hex
      go_wp2_with (fail)
      with_reducible refine HO.out.mono ?_
      rintro e wz ⟨rfl, rfl⟩
      have HP := Lib.hid (rOpen_any S wr)
      clear HO
      go_wp2_with (fail)
      with_reducible refine HP.out.mono ?_
      rintro e w4 ⟨rfl, h, hb4⟩
      obtain ⟨rb, hrb⟩ : ∃ rb, wr.heap.size = rb := ⟨_, rfl⟩
      rw [hrb] at h ⊢
      have F4 := Lib.hid (And.intro (hS.out.below hb4 fun i hi => hS.out.lt i hi) (And.intro (hb.out.trans (hb4.mono hb.out.size)) (And.intro (show w.heap.size ≤ rb by rw [← hrb]; exact hb.out.size) (show ∀ i, (Value.slice A' G.length c').ownBlock = some i → i ≠ rb from fun i hi => by have := hS.out.lt i hi; omega))))
      have HR := Lib.hid (rRaw_yes h ahead.size (by rw [HS.out.2.1]; have := HS.out.2.2.1; unfold maxLen; omega) (by rw [HS.out.2.1]; have := hR.out.2.2.2; omega))
      rw [HS.out.2.2.2.2] at HR
      clear h hb4 HP hrb
      go_wp2_with (fail)
      with_reducible refine HR.out.mono ?_
      rintro e w5 ⟨rfl, h, hk⟩
      rw [Nat.zero_add] at h
      have F5 := Lib.hid (And.intro h hk)
      clear h hk HR
      go_wp2_with (fail)
      go_loopg [99] G.length (fun gg v99 wz => ∃ (j a : Nat), v99 = .int .i64 (j : Int) ∧ Aside (gg + j = G.length) ∧ Aside (Rd wz rb S a false ∧ But rb w4 wz ∧ Chain lb a ((G.drop j).map lbl) lb.length ∧ a ≤ lb.length))
      case atStart => exact ⟨0, ahead.size, rfl, (by show _ = _; omega), F5.out.1, F5.out.2, hR.out.2.1, hR.out.2.2.2⟩
      case round =>
        obtain ⟨j, a, rfl, hgj, hz⟩ := hrel
        by_cases hj : j < G.length
        · have hjI : (j : Int) < (G.length : Int) := by omega
          obtain ⟨n, hn⟩ : ∃ n, G[j]? = some n := ⟨_, List.getElem?_eq_getElem hj⟩
          obtain ⟨g, cap, hv, hgl, _, _, hcell⟩ := F4.out.1.form (by omega)
          injection hv with hA _ hc
          subst hA hc
          have hgr : g ≠ rb := F4.out.2.2.2 g rfl
          have e0 : wr.cell? ⟨g, j, none⟩ = some (.string n) := (hz.out.2.1.cell (p := ⟨g, j, none⟩) ⟨hgl, hgr⟩).trans (hcell j _ (by rw [List.getElem?_map, hn]; rfl))
          have hgn := HS.out.2.2.2.1 n (List.mem_of_getElem? hn)
          have hdr : G.drop j = n :: G.drop (j + 1) := by
            obtain ⟨_, he⟩ := List.getElem?_eq_some_iff.1 hn
            rw [← he]; exact List.drop_eq_getElem_cons hj
          have hch := hz.out.2.2.1
          rw [hdr, List.map_cons] at hch
          obtain ⟨m', hE, hch'⟩ := hch
          have hrd := nread_enc hE (by rw [gd_mk hgn]; have := gd_size hgn; simpa using this)
          have hmb := nread_beh lb a m' (by rw [hrd])
          have HNA := Lib.hid (rName_any hz.out.1 (by rw [HS.out.2.1]; have := HS.out.2.2.1; omega) (by rw [HS.out.2.1]; exact hz.out.2.2.2))
          have HJ := Lib.hid (And.intro hgn (And.intro hch' (And.intro hrd (And.intro hmb hj))))
          clear hgn hdr hE hch' hrd hmb hcell hn hj
          go_wp2_with (fail)
          with_reducible refine HNA.out.mono ?_
          rintro e w6 hp
          unfold NamePost at hp
          rw [HS.out.1, HJ.out.2.2.1] at hp
          obtain ⟨rfl, h6, hk6⟩ : e = .returned (.string n) ∧ Rd w6 rb S m' false ∧ But rb wr w6 := by
            rcases hp with ⟨_, q, hq, he, h, hk⟩ | ⟨hno, _⟩
            · injection hq with hq
              subst hq
              dsimp only at he
              rw [gd_str HJ.out.1] at he
              exact ⟨he, h, hk⟩
            · dsimp only at hno
              have := HJ.out.1
              rw [gd_mk this] at hno
              unfold gd at this
              rw [this] at hno
              cases hno
          have F6 := Lib.hid (And.intro h6 (But.trans hz.out.2.1 hk6))
          clear hp h6 hk6 HNA
          go_wp2_with (fail)
          go_roundg (G.length - (j + 1))
          case measure => have := hgj.out; have := HJ.out.2.2.2.2; omega
          case rel => exact ⟨j + 1, m', by go_num, (by show _ = _; have := hgj.out; have := HJ.out.2.2.2.2; omega), F6.out.1, F6.out.2, HJ.out.2.1, HJ.out.2.2.2.1.2⟩
        · have hjI : ¬ (j : Int) < (G.length : Int) := by omega
          have hch := hz.out.2.2.1
          rw [List.drop_eq_nil_of_le (by omega)] at hch
          have hal : a = lb.length := hch
          have HBD := Lib.hid (rBad_any hz.out.1)
          have HLE := Lib.hid (rLeft_any hz.out.1 (by rw [HS.out.2.1]; have := HS.out.2.2.1; omega) (by rw [HS.out.2.1]; exact hz.out.2.2.2))
          rw [HS.out.2.1, hal, Nat.sub_self] at HLE
          have HFIN := Lib.hid (F4.out.2.1.trans (But.below hz.out.2.1 F4.out.2.2.1 F4.out.2.1.size))
          clear hj hch hal
          go_wp2_with (fail)
          with_reducible refine HBD.out.mono ?_
          rintro e wy ⟨rfl, rfl⟩
          go_wp2_with (fail)
          refine HLE.out.mono ?_
          rintro e wy ⟨rfl, k', rfl⟩
          go_wp2_with (fail)
          go_ret
          exact ⟨rfl, below_drewN HFIN.out _⟩
end Go.Proofs.Ytkjefohkhdadaaa
