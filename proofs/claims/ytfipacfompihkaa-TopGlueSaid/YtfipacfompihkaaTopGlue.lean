/- The walk of hardtacktop.TopGlue. Conditions: none. -/
import Derived.Test.YtfipacfompihkaaTgM
import Derived.Test.YtfipacfompihkaaOpenQ
import Derived.Test.YtfipacfompihkaaTopBegin
import Derived.Deep.DeepCutAuto
namespace Go.Proofs.Ytfipacfompihkaa
open Go.RowKit Go.Lib

set_option maxRecDepth 100000 in
set_option maxHeartbeats 8000000 in
theorem topGlue_law (w : World) (host : ByteArray) (A : Option Addr) (xs : List Nat) (c : Nat) (B : Option Addr) (ys : List Nat) (d : Nat) (ttl later : Int) (hh : host.size ≤ maxLen) (hX : U32s w A xs) (hxc : xs.length ≤ c) (hcm : c ≤ maxLen) (hY : U32s w B ys) (hyd : ys.length ≤ d) (hdm : d ≤ maxLen) (ht : 0 ≤ ttl ∧ ttl ≤ 65535) (hl : 0 ≤ later ∧ later ≤ 65535) :
    Calls Try.prog 6 #[.string host, .slice A xs.length c, .slice B ys.length d, .int .u16 ttl, .int .u16 later] w fun e w' => e = .returned (.bool true) ∧ Below w.heap.size w w' := by
  obtain ⟨i0, hi0, hz0, hz1, hz2⟩ := info_parts info_rr
  have HU := Lib.hid (And.intro hX (And.intro hY (And.intro ht hl)))
  have HC := Lib.hid (fun W => Check_any host hh W)
  have HN := Lib.hid (chk_cases host.data.toList)
  unfold maxLen at hcm hdm
  have hxI : (xs.length : Int) ≤ 9223372036854775807 := by omega
  have hyI : (ys.length : Int) ≤ 9223372036854775807 := by omega
  obtain ⟨z, hz⟩ : ∃ z, chkN host.data.toList = z := ⟨_, rfl⟩
  rw [hz] at HC
  have HZ := Lib.hid hz
  clear hX hY hxc hcm hyd hdm hl hh hz
  go_enter Try.func6, Try.ntmps6
  go_wp2_with (fail)
  with_reducible refine (begins_any _).mono ?_
  rintro e w1 ⟨rfl, hb⟩
  have B1 := Lib.hid hb
  clear hb
  rcases HN.out with ⟨hn, hc⟩ | ⟨hn, hc⟩
  case inr =>
    rw [HZ.out] at hc
    subst hc
    clear hn
    go_wp2_with (fail)
    with_reducible refine (HC.out _).mono ?_
    rintro e w2 ⟨rfl, hb⟩
    have B2 := Lib.hid (B1.out.trans (hb.mono B1.out.size))
    clear hb
    go_wp2_with (fail)
    go_ret
    exact ⟨rfl, B2.out⟩
  rw [HZ.out] at hc
  subst hc
  have HNN := Lib.hid hn
  clear hn
  by_cases h1 : xs.length < 1
  · have h1I : (xs.length : Int) < 1 := by omega
    clear h1
    go_wp2_with (fail)
    with_reducible refine (HC.out _).mono ?_
    rintro e w2 ⟨rfl, hb⟩
    have B2 := Lib.hid (B1.out.trans (hb.mono B1.out.size))
    clear hb
    go_wp2_with (fail)
    go_ret
    exact ⟨rfl, B2.out⟩
  have h1I : ¬ (xs.length : Int) < 1 := by omega
  by_cases h2 : 10 < xs.length
  · have h2I : (10 : Int) < (xs.length : Int) := by omega
    clear h1 h2
    go_wp2_with (fail)
    with_reducible refine (HC.out _).mono ?_
    rintro e w2 ⟨rfl, hb⟩
    have B2 := Lib.hid (B1.out.trans (hb.mono B1.out.size))
    clear hb
    go_wp2_with (fail)
    go_ret
    exact ⟨rfl, B2.out⟩
  have h2I : ¬ (10 : Int) < (xs.length : Int) := by omega
  by_cases h3 : ys.length < 1
  · have h3I : (ys.length : Int) < 1 := by omega
    clear h1 h2 h3
    go_wp2_with (fail)
    with_reducible refine (HC.out _).mono ?_
    rintro e w2 ⟨rfl, hb⟩
    have B2 := Lib.hid (B1.out.trans (hb.mono B1.out.size))
    clear hb
    go_wp2_with (fail)
    go_ret
    exact ⟨rfl, B2.out⟩
  have h3I : ¬ (ys.length : Int) < 1 := by omega
  by_cases h4 : 10 < ys.length
  · have h4I : (10 : Int) < (ys.length : Int) := by omega
    clear h1 h2 h3 h4
    go_wp2_with (fail)
    with_reducible refine (HC.out _).mono ?_
    rintro e w2 ⟨rfl, hb⟩
    have B2 := Lib.hid (B1.out.trans (hb.mono B1.out.size))
    clear hb
    go_wp2_with (fail)
    go_ret
    exact ⟨rfl, B2.out⟩
  have h4I : ¬ (10 : Int) < (ys.length : Int) := by omega
  by_cases h5 : ttl = 0
  · subst h5
    clear h1 h2 h3 h4
    go_wp2_with (fail)
    with_reducible refine (HC.out _).mono ?_
    rintro e w2 ⟨rfl, hb⟩
    have B2 := Lib.hid (B1.out.trans (hb.mono B1.out.size))
    clear hb
    go_wp2_with (fail)
    go_ret
    exact ⟨rfl, B2.out⟩
  have h5I : (ttl == 0) = false := by simp [h5]
  have HL := Lib.hid (show (1 ≤ xs.length ∧ xs.length ≤ 10) ∧ (1 ≤ ys.length ∧ ys.length ≤ 10) ∧ ttl ≠ 0 from ⟨by omega, by omega, h5⟩)
  clear h1 h2 h3 h4 h5 HN HZ
  go_wp2_with (fail)
  with_reducible refine (HC.out _).mono ?_
  rintro e w2 ⟨rfl, hb⟩
  have B2 := Lib.hid (B1.out.trans (hb.mono B1.out.size))
  clear hb B1 HC
  have HNEW := Lib.hid (show Calls Try.prog 15 #[.int .i64 9] w2 (NewP 9 w2) from newCa_any 9 (by decide) w2)
  go_wp2_with (fail)
  with_reducible refine HNEW.out.mono ?_
  rintro e w3 ⟨g, mb, L, rfl, hca, hb3, hg, hmb, hLL⟩
  have H3 := Lib.hid (And.intro hca (And.intro (B2.out.trans (hb3.mono B2.out.size)) (And.intro (Nat.le_trans B2.out.size hg) (And.intro (Nat.le_trans B2.out.size hmb) (fun i hi => Nat.le_trans B2.out.size (hLL i hi) : ∀ i, L i → w.heap.size ≤ i)))))
  clear hca hb3 hg hmb hLL B2
  go_wp2_with (fail)
  go_loopg [13, 16, 75] xs.length (fun gg v13 v16 v75 wr => ∃ (k : Nat) (Al : Option Addr) (cl : Nat), v75 = .int .i64 (k : Int) ∧ v13 = .slice Al k cl ∧ Aside (gg + k = xs.length) ∧ Aside (Sl wr 5 (.slice Al k cl) k (flatV RRec.vs (rrs host ttl (xs.take k)))) ∧ Aside (∀ q, (Value.slice Al k cl).ownBlock = some q → w3.heap.size ≤ q) ∧ Aside (Below w3.heap.size w3 wr))
  case atStart => exact ⟨0, none, 0, rfl, rfl, (by show _ = _; omega), Sl.nil _ _, (fun q hq => by simp [Value.ownBlock] at hq), Below.refl _ _⟩
  case round =>
    obtain ⟨k, Al, cl, rfl, rfl, hgk, hS, hO, hB⟩ := hrel
    by_cases hlt : k < xs.length
    · have hltI : (k : Int) < (xs.length : Int) := by omega
      obtain ⟨x, hx⟩ : ∃ x, xs[k]? = some x := ⟨_, List.getElem?_eq_getElem hlt⟩
      have hTr := HU.out.1.below (H3.out.2.1.trans (hB.out.mono H3.out.2.1.size))
      obtain ⟨b', off', rfl, hbl, hcl⟩ := hTr.2 (by omega)
      have c0 := hcl k x hx
      have hx32 := HU.out.1.1 x (List.mem_of_getElem? hx)
      have HX := Lib.hid (And.intro hx (And.intro hlt hx32))
      have hcv := conv4 x hx32 wr _ _ _ _ rfl rfl rfl rfl
      have HSL := Lib.hid ((hS.out.alloc (.cells #[.int .u8 ((x : Int) / 16777216), .int .u8 ((x : Int) / 65536 % 256), .int .u8 ((x : Int) / 256 % 256), .int .u8 ((x : Int) % 256)] 5)).alloc (.cells #[.string host, .int .u16 1, .int .u16 1, .int .u32 ttl, .string (b4 x)] 77))
      have HSR := Lib.hid (src_rr (P := Try.prog) Try.underlying41 (wr.alloc (.cells #[.int .u8 ((x : Int) / 16777216), .int .u8 ((x : Int) / 65536 % 256), .int .u8 ((x : Int) / 256 % 256), .int .u8 ((x : Int) % 256)] 5)) 77 host (b4 x) 1 1 ttl)
      rw [World.size_alloc] at HSR
      clear hx hlt hTr hcl
      go_wp2_with (at_builtin; go_must (refine wpList_append_sl _ rfl (.tmp 79) (.tmp 97) 41 41 rfl 77 i0 (.agg #[.string ⟨#[]⟩, .int .u16 0, .int .u16 0, .int .u32 0, .string ⟨#[]⟩]) 5 40 Try.underlying41 hi0 hz0 hz1 hz2 rfl (.slice Al k cl) k (flatV RRec.vs (rrs host ttl (xs.take k))) rfl HSL.out _ rfl 1 (flatV RRec.vs [⟨host, 1, 1, ttl, b4 x⟩]) HSR.out (by unfold maxLen; omega) (by omega) ?_); intro v3 w9 hs3 hg3 hv3; obtain ⟨A3, c3, rfl, hc3, hm3⟩ := hs3.shape; have H9 := Lib.hid (And.intro hs3 (And.intro hg3 hv3)); clear hs3 hg3 hv3 hc3 hm3)
      go_roundg (xs.length - (k + 1))
      case measure => have := hgk.out; have := HX.out.2.1; omega
      case rel =>
        obtain ⟨r1, r2, r3⟩ := rr_step HX.out.1 hO.out hB.out H9.out.1 H9.out.2.1 H9.out.2.2
        exact ⟨k + 1, A3, c3, by go_num, rfl, (by have := hgk.out; have := HX.out.2.1; show _ = _; omega), r1, r2, r3⟩
    · have hkx : k = xs.length := by have := hgk.out; omega
      subst hkx
      rw [List.take_length] at hS
      obtain ⟨W4, hW4⟩ : ∃ W4, wr = W4 := ⟨_, rfl⟩
      subst hW4
      have H4 := Lib.hid (And.intro hS.out (And.intro hO.out (And.intro hB.out (H3.out.2.1.trans (hB.out.mono H3.out.2.1.size)))))
      clear hS hO hB hgk
      obtain ⟨W4, hW4⟩ : ∃ W4, W4 = wr := ⟨_, rfl⟩
      rw [← hW4] at H4
      go_wp2_with (fail)
      rw [← hW4]
      clear hW4
      go_loopg [14, 18, 102] ys.length (fun gg v14 v18 v102 wr => ∃ (k : Nat) (Bl : Option Addr) (bl : Nat), v102 = .int .i64 (k : Int) ∧ v14 = .slice Bl k bl ∧ Aside (gg + k = ys.length) ∧ Aside (Sl wr 5 (.slice Bl k bl) k (flatV RRec.vs (rrs host 1048576 (ys.take k)))) ∧ Aside (∀ q, (Value.slice Bl k bl).ownBlock = some q → W4.heap.size ≤ q) ∧ Aside (Below W4.heap.size W4 wr))
      case atStart => exact ⟨0, none, 0, rfl, rfl, (by show _ = _; omega), Sl.nil _ _, (fun q hq => by simp [Value.ownBlock] at hq), Below.refl _ _⟩
      case round =>
        obtain ⟨k, Bl, bl, rfl, rfl, hgk, hS, hO, hB⟩ := hrel
        by_cases hlt : k < ys.length
        · have hltI : (k : Int) < (ys.length : Int) := by omega
          obtain ⟨x, hx⟩ : ∃ x, ys[k]? = some x := ⟨_, List.getElem?_eq_getElem hlt⟩
          have hTr := HU.out.2.1.below (H4.out.2.2.2.trans (hB.out.mono H4.out.2.2.2.size))
          obtain ⟨b', off', rfl, hbl, hcl⟩ := hTr.2 (by omega)
          have c0 := hcl k x hx
          have hx32 := HU.out.2.1.1 x (List.mem_of_getElem? hx)
          have HX := Lib.hid (And.intro hx (And.intro hlt hx32))
          have hcv := conv4 x hx32 wr _ _ _ _ rfl rfl rfl rfl
          have HSL := Lib.hid ((hS.out.alloc (.cells #[.int .u8 ((x : Int) / 16777216), .int .u8 ((x : Int) / 65536 % 256), .int .u8 ((x : Int) / 256 % 256), .int .u8 ((x : Int) % 256)] 5)).alloc (.cells #[.string host, .int .u16 1, .int .u16 1, .int .u32 1048576, .string (b4 x)] 77))
          have HSR := Lib.hid (src_rr (P := Try.prog) Try.underlying41 (wr.alloc (.cells #[.int .u8 ((x : Int) / 16777216), .int .u8 ((x : Int) / 65536 % 256), .int .u8 ((x : Int) / 256 % 256), .int .u8 ((x : Int) % 256)] 5)) 77 host (b4 x) 1 1 1048576)
          rw [World.size_alloc] at HSR
          clear hx hlt hTr hcl
          go_wp2_with (at_builtin; go_must (refine wpList_append_sl _ rfl (.tmp 106) (.tmp 122) 41 41 rfl 77 i0 (.agg #[.string ⟨#[]⟩, .int .u16 0, .int .u16 0, .int .u32 0, .string ⟨#[]⟩]) 5 40 Try.underlying41 hi0 hz0 hz1 hz2 rfl (.slice Bl k bl) k (flatV RRec.vs (rrs host 1048576 (ys.take k))) rfl HSL.out _ rfl 1 (flatV RRec.vs [⟨host, 1, 1, 1048576, b4 x⟩]) HSR.out (by unfold maxLen; omega) (by omega) ?_); intro v3 w9 hs3 hg3 hv3; obtain ⟨A3, c3, rfl, hc3, hm3⟩ := hs3.shape; have H9 := Lib.hid (And.intro hs3 (And.intro hg3 hv3)); clear hs3 hg3 hv3 hc3 hm3)
          go_roundg (ys.length - (k + 1))
          case measure => have := hgk.out; have := HX.out.2.1; omega
          case rel =>
            obtain ⟨r1, r2, r3⟩ := rr_step HX.out.1 hO.out hB.out H9.out.1 H9.out.2.1 H9.out.2.2
            exact ⟨k + 1, A3, c3, by go_num, rfl, (by have := hgk.out; have := HX.out.2.1; show _ = _; omega), r1, r2, r3⟩
        · have hkx : k = ys.length := by have := hgk.out; omega
          subst hkx
          rw [List.take_length] at hS
          have hxs0 : xs ≠ [] := fun e => by rw [e] at h1I; simp at h1I
          have hys0 : ys ≠ [] := fun e => by rw [e] at h3I; simp at h3I
          have ht1 : 0 < ttl ∧ ttl ≤ 65535 := by have := HL.out.2.2; omega
          have hRT1 := (rtab_of_sl (c := cl) (xs := rrs host ttl xs) (by rw [rrs_len]; exact H4.out.1)).below hB.out
          have HF1 := Lib.hid (find_rrs host ttl xs Al cl wr HNN.out (by omega) hxs0 (by omega) hRT1)
          rw [rrs_len] at HF1
          have H5 := Lib.hid (And.intro hS.out (And.intro hB.out (And.intro hxs0 (And.intro hys0 ht1))))
          clear hS hO hB hgk hRT1 hxs0 hys0 ht1
          go_wp2_with (fail)
          with_reducible refine HF1.out.mono ?_
          rintro e w6 ⟨ds, Ad, cd, rfl, hokd, hmd, hsd, hod, hb6⟩
          dsimp only [setV]
          have H6 := Lib.hid (And.intro hokd (And.intro hmd (And.intro hsd (And.intro hod hb6))))
          clear hokd hmd hsd hod hb6 HF1
          go_wp2_with (fail)
          obtain ⟨V6, hV6⟩ : ∃ V6, w6.alloc (.cells #[.string host, .int .u16 1, .int .u32 ttl, .slice Ad ds.length cd] 49) = V6 := ⟨_, rfl⟩
          rw [hV6]
          have hb6 : Below wr.heap.size wr V6 := by rw [← hV6]; exact H6.out.2.2.2.2.alloc H6.out.2.2.2.2.size _
          have hB6 : Blk V6 w6.heap.size 49 #[.string host, .int .u16 1, .int .u32 ttl, .slice Ad ds.length cd] := by rw [← hV6]; exact Blk.new _ _ _
          have hs6 : Sl V6 1 (.slice Ad ds.length cd) ds.length (ds.map Value.string) := by rw [← hV6]; exact H6.out.2.2.1.alloc _
          have hRT2 := (rtab_of_sl (c := bl) (xs := rrs host 1048576 ys) (by rw [rrs_len]; exact H5.out.1)).below hb6
          have HF2 := Lib.hid (find_rrs host 1048576 ys Bl bl V6 HNN.out (by omega) H5.out.2.2.2.1 (by omega) hRT2)
          rw [rrs_len] at HF2
          have H7 := Lib.hid (And.intro hb6 (And.intro hB6 (And.intro hs6 (show w6.heap.size < V6.heap.size from hB6.lt))))
          clear hV6 hb6 hB6 hs6 hRT2
          with_reducible refine HF2.out.mono ?_
          rintro e w8 ⟨es, Ae, ce, rfl, hoke, hme, hse, hoe, hb8⟩
          dsimp only [setV]
          have H8 := Lib.hid (And.intro hoke (And.intro hme (And.intro hse (And.intro hoe hb8))))
          have hB8 := H7.out.2.1.below hb8 H7.out.2.1.lt
          clear hoke hme hse hoe hb8 HF2
          go_upto_region 22 with (fail)
          obtain ⟨W9, hW9⟩ : ∃ W9, ((w8.alloc (.cells #[.string host, .int .u16 1, .int .u32 1048576, .slice Ae es.length ce] 49)).alloc (.cells #[.string host] 9)).alloc (.cells #[.string ⟨#[0]⟩, .int .u16 2, .int .u32 9, .slice (some ⟨w8.heap.size + 1, 0, none⟩) 1 1] 49) = W9 := ⟨_, rfl⟩
          rw [hW9]
          have z9 : W9.heap.size = w8.heap.size + 1 + 1 + 1 := by rw [← hW9]; simp
          have hb86 := H8.out.2.2.2.2
          have zz : wr.heap.size ≤ w6.heap.size ∧ w6.heap.size < V6.heap.size ∧ V6.heap.size ≤ w8.heap.size := ⟨H6.out.2.2.2.2.size, H7.out.2.2.2, hb86.size⟩
          have hb8W : Below w8.heap.size w8 W9 := by rw [← hW9]; exact (((Below.refl _ _).alloc (Nat.le_refl _) _).alloc (by simp) _).alloc (by simp; omega) _
          have hbw : Below wr.heap.size wr W9 := (H7.out.1.trans (hb86.mono H7.out.1.size)).trans (hb8W.mono (by omega))
          have hB6 := (H7.out.2.1.below hb86 H7.out.2.1.lt).below hb8W (by omega)
          have hB8 : Blk W9 w8.heap.size 49 #[.string host, .int .u16 1, .int .u32 1048576, .slice Ae es.length ce] := by rw [← hW9]; exact ((Blk.new _ _ _).alloc _).alloc _
          have hBn : Blk W9 (w8.heap.size + 1) 9 #[.string host] := by
            rw [← hW9]
            have h := Blk.new (w8.alloc (.cells #[.string host, .int .u16 1, .int .u32 1048576, .slice Ae es.length ce] 49)) 9 #[.string host]
            rw [World.size_alloc] at h
            exact h.alloc _
          have hB9 : Blk W9 (w8.heap.size + 1 + 1) 49 #[.string ⟨#[0]⟩, .int .u16 2, .int .u32 9, .slice (some ⟨w8.heap.size + 1, 0, none⟩) 1 1] := by
            rw [← hW9]
            have h := Blk.new ((w8.alloc (.cells #[.string host, .int .u16 1, .int .u32 1048576, .slice Ae es.length ce] 49)).alloc (.cells #[.string host] 9)) 49 #[.string ⟨#[0]⟩, .int .u16 2, .int .u32 9, .slice (some ⟨w8.heap.size + 1, 0, none⟩) 1 1]
            rw [World.size_alloc, World.size_alloc] at h
            exact h
          have hSd : Sl W9 1 (.slice Ad ds.length cd) ds.length (ds.map Value.string) := (H7.out.2.2.1.below hb86 H7.out.2.2.1.lt).below hb8W fun q hq => by have := H7.out.2.2.1.lt q hq; omega
          have hSe : Sl W9 1 (.slice Ae es.length ce) es.length (es.map Value.string) := H8.out.2.2.1.below hb8W fun q hq => H8.out.2.2.1.lt q hq
          have hb3 : Below w3.heap.size w3 W9 := H4.out.2.2.1.trans ((H5.out.2.1.trans (hbw.mono H5.out.2.1.size)).mono H4.out.2.2.1.size)
          have hn := H3.out.1.lt
          have z34 : w3.heap.size ≤ wr.heap.size := Nat.le_trans H4.out.2.2.1.size H5.out.2.1.size
          have zw3 : w.heap.size ≤ w3.heap.size := H3.out.2.1.size
          obtain ⟨b6, hb6⟩ : ∃ b, w6.heap.size = b := ⟨_, rfl⟩
          obtain ⟨bn, hbn⟩ : ∃ b, w8.heap.size + 1 = b := ⟨_, rfl⟩
          obtain ⟨b9, hb9⟩ : ∃ b, bn + 1 = b := ⟨_, rfl⟩
          rw [hbn] at hBn hB9 ⊢
          rw [hb9] at hB9 ⊢
          obtain ⟨b8, hb8⟩ : ∃ b, w8.heap.size = b := ⟨_, rfl⟩
          rw [hb8] at hB8 ⊢
          rw [hb6] at hB6 ⊢
          have hown : (∀ a, Ad = some a → w3.heap.size ≤ a.block) ∧ ∀ a, Ae = some a → w3.heap.size ≤ a.block :=
            ⟨fun a ha => by have := H6.out.2.2.2.1 a.block (by rw [ha]; rfl); omega, fun a ha => by have := H8.out.2.2.2.1 a.block (by rw [ha]; rfl); omega⟩
          have H9 := Lib.hid (And.intro (H3.out.1.low hb3) (And.intro hB6 (And.intro hB8 (And.intro hBn (And.intro hB9 (And.intro hSd (And.intro hSe (And.intro hown (And.intro (H3.out.2.1.trans (hb3.mono zw3)) (And.intro (show w3.heap.size ≤ b6 ∧ w3.heap.size ≤ b8 ∧ w3.heap.size ≤ bn ∧ w3.heap.size ≤ b9 by omega) (show mb < w3.heap.size ∧ (∀ i, L i → i < w3.heap.size) ∧ w.heap.size ≤ mb ∧ ∀ i, L i → w.heap.size ≤ i from ⟨hn.2.1, hn.2.2, H3.out.2.2.2.1, H3.out.2.2.2.2⟩)))))))))))
          have hsz : ∀ l ∈ ds ++ es, l.size ≤ maxLen := fun l hl => by
            have h4 : l.size = 4 := by
              rcases List.mem_append.1 hl with h | h
              · obtain ⟨x, _, rfl⟩ := H6.out.2.1 l h; rfl
              · obtain ⟨x, _, rfl⟩ := H8.out.2.1 l h; rfl
            rw [h4]; unfold maxLen; omega
          have hhs : host.size ≤ 255 := by
            have h := ((isName_iff _).1 HNN.out).1
            have h2 : host.data.toList.length = host.size := by simp
            omega
          have hl64 : ds.length ≤ 64 ∧ es.length ≤ 64 ∧ 0 < ds.length ∧ 0 < es.length := by
            have h1 := H6.out.1
            have h2 := H8.out.1
            unfold setOk at h1 h2
            simp only [Bool.and_eq_true, decide_eq_true_eq] at h1 h2
            exact ⟨h1.2.2.2.1, h2.2.2.2.1, h1.2.2.1, h2.2.2.1⟩
          have HPL := Lib.hid (And.intro hsz (And.intro hhs hl64))
          have q0 := hB6.cell 0; have q1 := hB6.cell 1; have q2 := hB6.cell 2; have q3 := hB6.cell 3
          have hput1 := put_any H9.out.1 (by omega) (by omega) host 1 ttl Ad ds cd 4 5 (by unfold maxLen; omega) (by omega) (by omega) (stab_of_sl hSd) (fun a ha _ => ⟨fun h => by have := hown.1 a ha; have := hn.2.2 _ h; omega, fun h => by have := hown.1 a ha; have := hn.2.1; omega⟩) (fun x hx => hsz x (List.mem_append.2 (.inl hx))) (by omega) (by omega) (by omega)
          have HPUT1 := Lib.hid hput1
          dsimp only [setV] at HPUT1
          clear hput1 z9 hb86 zz hb8W hbw hB6 hB8 hBn hB9 hSd hSe hb3 hn z34 zw3 hb6 hb8 hb9 hbn hown hsz hhs hl64 hW9
          have hlr := HU.out.2.2.2
          by_cases hlv : later < ttl
          · have HLV := Lib.hid hlv
            go_wp2_with (fail)
            with_reducible refine HPUT1.out.mono ?_
            rintro e w10 hp10
            obtain ⟨rfl, L1, hc1, hL1, hk1⟩ := put1 H5.out.2.2.2.2 H6.out.1 hp10
            have hn := H9.out.2.2.2.2.2.2.2.2.2.2
            have hz := H9.out.2.2.2.2.2.2.2.2.2.1
            have hown := H9.out.2.2.2.2.2.2.2.1
            have hfar : ∀ i, w3.heap.size ≤ i → ¬ L i ∧ i ≠ mb := fun i hi => ⟨fun h => by have := hn.2.1 i h; omega, by omega⟩
            have hB8 := H9.out.2.2.1.keepK hk1 ⟨H9.out.2.2.1.lt, hfar _ hz.2.1⟩
            have hB9 := H9.out.2.2.2.2.1.keepK hk1 ⟨H9.out.2.2.2.2.1.lt, hfar _ hz.2.2.2⟩
            have hBn := H9.out.2.2.2.1.keepK hk1 ⟨H9.out.2.2.2.1.lt, hfar _ hz.2.2.1⟩
            have hSe := H9.out.2.2.2.2.2.2.1.keepK hk1 fun q hq => ⟨H9.out.2.2.2.2.2.2.1.lt q hq, hfar q (by cases hA : Ae with
              | none => rw [hA] at hq; cases hq
              | some a => rw [hA] at hq; injection hq with hq; have := hown.2 a hA; omega)⟩
            have hL1' : ∀ i, w3.heap.size ≤ i → i < W9.heap.size → ¬ L1 i ∧ i ≠ mb := fun i h1 h2 => ⟨fun h => by rcases hL1 i h with h | h; exact (hfar i h1).1 h; omega, (hfar i h1).2⟩
            have hput2 := put_any hc1 (by omega) (by omega) host 1 1048576 Ae es ce 1 (5 + later) (by have := HPL.out.2.1; unfold maxLen; omega) (by omega) (by omega) (stab_of_sl hSe) (fun a ha _ => hL1' a.block (hown.2 a ha) (H9.out.2.2.2.2.2.2.1.lt _ (by rw [ha]; rfl))) (fun x hx => HPL.out.1 x (List.mem_append.2 (.inr hx))) (by have := HPL.out.2.2.2.1; omega) (by omega) (by omega)
            have HPUT2 := Lib.hid hput2
            dsimp only [setV] at HPUT2
            have HL1 := Lib.hid hL1'
            have H10 := Lib.hid (And.intro hc1 (And.intro hB9 (And.intro hBn (And.intro hk1 hL1))))
            clear q0 q1 q2 q3
            have q0 := hB8.cell 0; have q1 := hB8.cell 1; have q2 := hB8.cell 2; have q3 := hB8.cell 3
            clear hp10 hc1 hL1 hk1 hn hz hown hfar hB8 hB9 hBn hSe hput2 HPUT1 hL1'
            go_wp2_with (fail)
            with_reducible refine HPUT2.out.mono ?_
            rintro e w11 hp11
            obtain ⟨rfl, L2, V2, l2, rk2, un2, hc2, hg2, hL2, hk2⟩ := put2 H5.out.2.2.2.2 HU.out.2.2.2 H8.out.1 hp11
            rw [decide_eq_true (show later < ttl from by have := HLV.out; omega)]
            rw [if_pos (show later < ttl from by have := HLV.out; omega)] at hg2
            have hz := H9.out.2.2.2.2.2.2.2.2.2.1
            have z910 := H10.out.2.2.2.1.size
            have hB9 := H10.out.2.1.keepK hk2 ⟨H10.out.2.1.lt, HL1.out _ hz.2.2.2 H9.out.2.2.2.2.1.lt⟩
            have hBn := H10.out.2.2.1.keepK hk2 ⟨H10.out.2.2.1.lt, HL1.out _ hz.2.2.1 H9.out.2.2.2.1.lt⟩
            have hTn : STab w11 (some ⟨bn, 0, none⟩) [host] := fun _ => ⟨bn, 0, rfl, hBn.lt, fun j u hu => by
              rw [Nat.zero_add]
              cases j with
              | zero => simp at hu; subst hu; exact hBn.cell 0
              | succ j => simp at hu⟩
            have hnL2 : ¬ L2 bn := fun h => by
              rcases hL2 bn h with h | h
              · exact (HL1.out bn hz.2.2.1 H9.out.2.2.2.1.lt).1 h
              · have := H10.out.2.2.1.lt; omega
            have hsc : setCode ⟨#[0]⟩ 2 9 [host] = 0 := by unfold setCode; rw [if_pos (ns_ok host HNN.out)]
            have hserv := serv_any hc2 ⟨#[0]⟩ host (by have := HPL.out.2.1; unfold maxLen; omega) 9 (5 + later) (by omega) bn 1 hTn hnL2 hsc (fun X hX => checkS_any ⟨#[0]⟩ 2 9 (some ⟨bn, 0, none⟩) [host] 1 X (by decide) (hTn.below hX) (fun x hx => by rw [List.mem_singleton.1 hx]; have := HPL.out.2.1; unfold maxLen; omega) (by show (1 : Nat) ≤ _; omega)) hg2 (by have := HPL.out.2.2; omega) (by have := HPL.out.2.2; omega) (fun x hx => by obtain ⟨y, _, rfl⟩ := H6.out.2.1 x hx; exact b4_ok y)
            have HSERV := Lib.hid hserv
            dsimp only [setV] at HSERV
            rw [show [host].length = 1 from rfl] at HSERV
            have hkz : Below w.heap.size w w11 := by
              have hn := H9.out.2.2.2.2.2.2.2.2.2.2
              have hw9 := H9.out.2.2.2.2.2.2.2.2.1
              have hw9z := hw9.size
              refine ((KeepK.of_below (K := fun i => i < w.heap.size) hw9 fun i hi => hi).trans ((H10.out.2.2.2.1.mono fun i hi => ⟨by omega, fun h => by have := hn.2.2.2 i h; omega, by omega⟩).trans (hk2.mono fun i hi => ⟨by omega, fun h => ?_, by omega⟩))).below fun i hi => hi
              rcases H10.out.2.2.2.2 i h with h | h
              · have := hn.2.2.2 i h; omega
              · omega
            have hL2w : ∀ i, L2 i → w.heap.size ≤ i := fun i h => by
              have hn := H9.out.2.2.2.2.2.2.2.2.2.2
              have hw9z := H9.out.2.2.2.2.2.2.2.2.1.size
              rcases hL2 i h with h | h
              · rcases H10.out.2.2.2.2 i h with h | h
                · exact hn.2.2.2 i h
                · omega
              · omega
            have H11 := Lib.hid (And.intro hkz hL2w)
            clear q0 q1 q2 q3
            have q0 := hB9.cell 0; have q1 := hB9.cell 1; have q2 := hB9.cell 2; have q3 := hB9.cell 3
            clear hp11 hc2 hg2 hL2 hk2 hz z910 hB9 hBn hTn hnL2 hsc hserv HPUT2 hkz hL2w
            go_wp2_with (fail)
            with_reducible refine HSERV.out.mono ?_
            rintro e w12 ⟨A12, c12, Ls, rfl, hs12, hne, hin, hk12⟩
            have hb12 : Below w.heap.size w w12 := ((KeepK.of_below (K := fun i => i < w.heap.size) H11.out.1 fun i hi => hi).trans (hk12.mono fun i hi => ⟨Nat.lt_of_lt_of_le hi H11.out.1.size, fun h => by have := H11.out.2 i h; omega⟩)).below fun i hi => hi
            have hin2 : ∀ a ∈ Ls, ∃ y ∈ xs, a = (y : Int) := fun a ha => by
              obtain ⟨x, hx, rfl⟩ := hin a ha
              obtain ⟨y, hy, rfl⟩ := H6.out.2.1 x hx
              exact ⟨y, hy, by rw [b4_be y (HU.out.1.1 y hy)]⟩
            have hLp : 0 < Ls.length := List.length_pos_iff.2 hne
            have hsf := hs12.form hLp
            obtain ⟨g12, cap12, hv12, hl12, _, hm12, hc12⟩ := hsf
            injection hv12 with hv1 _ hv3
            subst hv1 hv3
            have hUf := HU.out.1.below hb12
            have H12 := Lib.hid (And.intro hb12 (And.intro hin2 (And.intro hc12 (And.intro hl12 hUf))))
            have hLm : (Ls.length : Int) ≤ 9223372036854775807 := by
              obtain ⟨_, _, hq, h1, h2⟩ := hs12.shape
              unfold maxLen at h2
              omega
            clear hs12 hne hin hk12 hb12 hin2 hc12 hl12 hUf HSERV q0 q1 q2 q3
            go_wp2_with (fail)
            go_loopg [30, 31, 33, 177] Ls.length (fun gg v30 v31 v33 v177 wr => ∃ k : Nat, v177 = .int .i64 (k : Int) ∧ Aside (gg + k = Ls.length) ∧ Aside (Below w12.heap.size w12 wr))
            case atStart => exact ⟨0, rfl, (by show _ = _; omega), Below.refl _ _⟩
            case round =>
              obtain ⟨k, rfl, hgk, hB⟩ := hrel
              by_cases hlt : k < Ls.length
              · have hltI : (k : Int) < (Ls.length : Int) := by omega
                obtain ⟨a, ha⟩ : ∃ a, Ls[k]? = some a := ⟨_, List.getElem?_eq_getElem hlt⟩
                have ca : wr.cell? ⟨g12, k, none⟩ = some (.int .u32 a) := (hB.out.cell (p := ⟨g12, k, none⟩) H12.out.2.2.2.1).trans (H12.out.2.2.1 k _ (by unfold u32C; rw [List.getElem?_map, ha]; rfl))
                obtain ⟨b', off', rfl, hbl, hcl⟩ := H12.out.2.2.2.2.2 (by omega)
                have HA := Lib.hid (And.intro (List.mem_of_getElem? ha) (And.intro hbl hcl))
                clear ha hbl hcl
                obtain ⟨W13, hW13⟩ : ∃ W13, W13 = wr := ⟨_, rfl⟩
                have hbW : Below w12.heap.size w12 W13 := by rw [hW13]; exact hB.out
                have HBW := Lib.hid hbW
                clear hbW
                go_wp2_with (fail)
                rw [← hW13]
                clear hW13
                go_loopg [31, 33, 183] xs.length (fun gg v31 v33 v183 wr => ∃ (j : Nat) (b : Bool), v183 = .int .i64 (j : Int) ∧ v31 = .bool b ∧ Aside (gg + j = xs.length) ∧ Aside (b = true ↔ ∃ y ∈ xs.take j, a = (y : Int)) ∧ Aside (Below W13.heap.size W13 wr))
                case atStart => exact ⟨0, false, rfl, rfl, (by show _ = _; omega), (by show _ ↔ _; simp), Below.refl _ _⟩
                case round =>
                  obtain ⟨j, b, rfl, rfl, hgj, hbj, hBj⟩ := hrel
                  by_cases hjt : j < xs.length
                  · have hjtI : (j : Int) < (xs.length : Int) := by omega
                    obtain ⟨y, hy⟩ : ∃ y, xs[j]? = some y := ⟨_, List.getElem?_eq_getElem hjt⟩
                    have cy : wr.cell? ⟨b', off' + j, none⟩ = some (.int .u32 (y : Int)) := ((HBW.out.trans (hBj.out.mono HBW.out.size)).cell (p := ⟨b', off' + j, none⟩) HA.out.2.1).trans (HA.out.2.2 j y hy)
                    have hst : (∃ z ∈ xs.take (j + 1), a = (z : Int)) ↔ (b = true ∨ a = (y : Int)) := by
                      rw [List.take_add_one, hy, hbj.out]
                      constructor
                      · rintro ⟨z, hz, e⟩
                        rcases List.mem_append.1 hz with h | h
                        · exact .inl ⟨z, h, e⟩
                        · simp at h; subst h; exact .inr e
                      · rintro (⟨z, hz, e⟩ | e)
                        · exact ⟨z, List.mem_append.2 (.inl hz), e⟩
                        · exact ⟨y, List.mem_append.2 (.inr (by simp)), e⟩
                    have HST := Lib.hid hst
                    clear hst hy
                    cases b with
                    | true =>
                      go_wp2_with (fail)
                      go_roundg (xs.length - (j + 1))
                      case measure => have := hgj.out; omega
                      case rel => exact ⟨j + 1, true, by go_num, rfl, (by have := hgj.out; show _ = _; omega), (by show _ ↔ _; rw [HST.out]; simp), hBj.out⟩
                    | false =>
                      obtain ⟨z, hz⟩ : ∃ z, (a == (y : Int)) = z := ⟨_, rfl⟩
                      have HZ := Lib.hid hz
                      have hz2 : decide (a = (y : Int)) = z := by rw [← hz]; by_cases h : a = (y : Int) <;> simp [h]
                      go_wp2_with (fail)
                      go_roundg (xs.length - (j + 1))
                      case measure => have := hgj.out; omega
                      case rel => exact ⟨j + 1, z, by go_num, rfl, (by have := hgj.out; show _ = _; omega), (by show _ ↔ _; rw [HST.out, ← HZ.out]; simp), hBj.out⟩
                  · have hje : j = xs.length := by have := hgj.out; omega
                    subst hje
                    have hbt : b = true := by
                      rw [hbj.out, List.take_length]
                      exact H12.out.2.1 a HA.out.1
                    subst hbt
                    have HB2 := Lib.hid (HBW.out.trans (hBj.out.mono HBW.out.size))
                    clear hbj hBj hgj
                    go_wp2_with (fail)
                    go_roundg (Ls.length - (k + 1))
                    case measure => have := hgk.out; omega
                    case rel => exact ⟨k + 1, by go_num, (by have := hgk.out; show _ = _; omega), HB2.out⟩
              · have hLpI : (0 : Int) < (Ls.length : Int) := by omega
                have HBB := Lib.hid (H12.out.1.trans (hB.out.mono H12.out.1.size))
                go_wp2_with (fail)
                go_ret
                exact ⟨ret_b (by simp), HBB.out⟩
          · have HLV := Lib.hid hlv
            go_wp2_with (fail)
            with_reducible refine HPUT1.out.mono ?_
            rintro e w10 hp10
            obtain ⟨rfl, L1, hc1, hL1, hk1⟩ := put1 H5.out.2.2.2.2 H6.out.1 hp10
            have hn := H9.out.2.2.2.2.2.2.2.2.2.2
            have hz := H9.out.2.2.2.2.2.2.2.2.2.1
            have hown := H9.out.2.2.2.2.2.2.2.1
            have hfar : ∀ i, w3.heap.size ≤ i → ¬ L i ∧ i ≠ mb := fun i hi => ⟨fun h => by have := hn.2.1 i h; omega, by omega⟩
            have hB8 := H9.out.2.2.1.keepK hk1 ⟨H9.out.2.2.1.lt, hfar _ hz.2.1⟩
            have hB9 := H9.out.2.2.2.2.1.keepK hk1 ⟨H9.out.2.2.2.2.1.lt, hfar _ hz.2.2.2⟩
            have hBn := H9.out.2.2.2.1.keepK hk1 ⟨H9.out.2.2.2.1.lt, hfar _ hz.2.2.1⟩
            have hSe := H9.out.2.2.2.2.2.2.1.keepK hk1 fun q hq => ⟨H9.out.2.2.2.2.2.2.1.lt q hq, hfar q (by cases hA : Ae with
              | none => rw [hA] at hq; cases hq
              | some a => rw [hA] at hq; injection hq with hq; have := hown.2 a hA; omega)⟩
            have hL1' : ∀ i, w3.heap.size ≤ i → i < W9.heap.size → ¬ L1 i ∧ i ≠ mb := fun i h1 h2 => ⟨fun h => by rcases hL1 i h with h | h; exact (hfar i h1).1 h; omega, (hfar i h1).2⟩
            have hput2 := put_any hc1 (by omega) (by omega) host 1 1048576 Ae es ce 1 (5 + later) (by have := HPL.out.2.1; unfold maxLen; omega) (by omega) (by omega) (stab_of_sl hSe) (fun a ha _ => hL1' a.block (hown.2 a ha) (H9.out.2.2.2.2.2.2.1.lt _ (by rw [ha]; rfl))) (fun x hx => HPL.out.1 x (List.mem_append.2 (.inr hx))) (by have := HPL.out.2.2.2.1; omega) (by omega) (by omega)
            have HPUT2 := Lib.hid hput2
            dsimp only [setV] at HPUT2
            have HL1 := Lib.hid hL1'
            have H10 := Lib.hid (And.intro hc1 (And.intro hB9 (And.intro hBn (And.intro hk1 hL1))))
            clear q0 q1 q2 q3
            have q0 := hB8.cell 0; have q1 := hB8.cell 1; have q2 := hB8.cell 2; have q3 := hB8.cell 3
            clear hp10 hc1 hL1 hk1 hn hz hown hfar hB8 hB9 hBn hSe hput2 HPUT1 hL1'
            go_wp2_with (fail)
            with_reducible refine HPUT2.out.mono ?_
            rintro e w11 hp11
            obtain ⟨rfl, L2, V2, l2, rk2, un2, hc2, hg2, hL2, hk2⟩ := put2 H5.out.2.2.2.2 HU.out.2.2.2 H8.out.1 hp11
            rw [decide_eq_false (show ¬ later < ttl from by have := HLV.out; omega)]
            rw [if_neg (show ¬ later < ttl from by have := HLV.out; omega)] at hg2
            have hz := H9.out.2.2.2.2.2.2.2.2.2.1
            have z910 := H10.out.2.2.2.1.size
            have hB9 := H10.out.2.1.keepK hk2 ⟨H10.out.2.1.lt, HL1.out _ hz.2.2.2 H9.out.2.2.2.2.1.lt⟩
            have hBn := H10.out.2.2.1.keepK hk2 ⟨H10.out.2.2.1.lt, HL1.out _ hz.2.2.1 H9.out.2.2.2.1.lt⟩
            have hTn : STab w11 (some ⟨bn, 0, none⟩) [host] := fun _ => ⟨bn, 0, rfl, hBn.lt, fun j u hu => by
              rw [Nat.zero_add]
              cases j with
              | zero => simp at hu; subst hu; exact hBn.cell 0
              | succ j => simp at hu⟩
            have hnL2 : ¬ L2 bn := fun h => by
              rcases hL2 bn h with h | h
              · exact (HL1.out bn hz.2.2.1 H9.out.2.2.2.1.lt).1 h
              · have := H10.out.2.2.1.lt; omega
            have hsc : setCode ⟨#[0]⟩ 2 9 [host] = 0 := by unfold setCode; rw [if_pos (ns_ok host HNN.out)]
            have hserv := serv_any hc2 ⟨#[0]⟩ host (by have := HPL.out.2.1; unfold maxLen; omega) 9 (5 + later) (by omega) bn 1 hTn hnL2 hsc (fun X hX => checkS_any ⟨#[0]⟩ 2 9 (some ⟨bn, 0, none⟩) [host] 1 X (by decide) (hTn.below hX) (fun x hx => by rw [List.mem_singleton.1 hx]; have := HPL.out.2.1; unfold maxLen; omega) (by show (1 : Nat) ≤ _; omega)) hg2 (by have := HPL.out.2.2; omega) (by have := HPL.out.2.2; omega) (fun x hx => by obtain ⟨y, _, rfl⟩ := H8.out.2.1 x hx; exact b4_ok y)
            have HSERV := Lib.hid hserv
            dsimp only [setV] at HSERV
            rw [show [host].length = 1 from rfl] at HSERV
            have hkz : Below w.heap.size w w11 := by
              have hn := H9.out.2.2.2.2.2.2.2.2.2.2
              have hw9 := H9.out.2.2.2.2.2.2.2.2.1
              have hw9z := hw9.size
              refine ((KeepK.of_below (K := fun i => i < w.heap.size) hw9 fun i hi => hi).trans ((H10.out.2.2.2.1.mono fun i hi => ⟨by omega, fun h => by have := hn.2.2.2 i h; omega, by omega⟩).trans (hk2.mono fun i hi => ⟨by omega, fun h => ?_, by omega⟩))).below fun i hi => hi
              rcases H10.out.2.2.2.2 i h with h | h
              · have := hn.2.2.2 i h; omega
              · omega
            have hL2w : ∀ i, L2 i → w.heap.size ≤ i := fun i h => by
              have hn := H9.out.2.2.2.2.2.2.2.2.2.2
              have hw9z := H9.out.2.2.2.2.2.2.2.2.1.size
              rcases hL2 i h with h | h
              · rcases H10.out.2.2.2.2 i h with h | h
                · exact hn.2.2.2 i h
                · omega
              · omega
            have H11 := Lib.hid (And.intro hkz hL2w)
            clear q0 q1 q2 q3
            have q0 := hB9.cell 0; have q1 := hB9.cell 1; have q2 := hB9.cell 2; have q3 := hB9.cell 3
            clear hp11 hc2 hg2 hL2 hk2 hz z910 hB9 hBn hTn hnL2 hsc hserv HPUT2 hkz hL2w
            go_wp2_with (fail)
            with_reducible refine HSERV.out.mono ?_
            rintro e w12 ⟨A12, c12, Ls, rfl, hs12, hne, hin, hk12⟩
            have hb12 : Below w.heap.size w w12 := ((KeepK.of_below (K := fun i => i < w.heap.size) H11.out.1 fun i hi => hi).trans (hk12.mono fun i hi => ⟨Nat.lt_of_lt_of_le hi H11.out.1.size, fun h => by have := H11.out.2 i h; omega⟩)).below fun i hi => hi
            have hin2 : ∀ a ∈ Ls, ∃ y ∈ ys, a = (y : Int) := fun a ha => by
              obtain ⟨x, hx, rfl⟩ := hin a ha
              obtain ⟨y, hy, rfl⟩ := H8.out.2.1 x hx
              exact ⟨y, hy, by rw [b4_be y (HU.out.2.1.1 y hy)]⟩
            have hLp : 0 < Ls.length := List.length_pos_iff.2 hne
            have hsf := hs12.form hLp
            obtain ⟨g12, cap12, hv12, hl12, _, hm12, hc12⟩ := hsf
            injection hv12 with hv1 _ hv3
            subst hv1 hv3
            have hUf := HU.out.2.1.below hb12
            have H12 := Lib.hid (And.intro hb12 (And.intro hin2 (And.intro hc12 (And.intro hl12 hUf))))
            have hLm : (Ls.length : Int) ≤ 9223372036854775807 := by
              obtain ⟨_, _, hq, h1, h2⟩ := hs12.shape
              unfold maxLen at h2
              omega
            clear hs12 hne hin hk12 hb12 hin2 hc12 hl12 hUf HSERV q0 q1 q2 q3
            go_wp2_with (fail)
            go_loopg [30, 31, 33, 177] Ls.length (fun gg v30 v31 v33 v177 wr => ∃ k : Nat, v177 = .int .i64 (k : Int) ∧ Aside (gg + k = Ls.length) ∧ Aside (Below w12.heap.size w12 wr))
            case atStart => exact ⟨0, rfl, (by show _ = _; omega), Below.refl _ _⟩
            case round =>
              obtain ⟨k, rfl, hgk, hB⟩ := hrel
              by_cases hlt : k < Ls.length
              · have hltI : (k : Int) < (Ls.length : Int) := by omega
                obtain ⟨a, ha⟩ : ∃ a, Ls[k]? = some a := ⟨_, List.getElem?_eq_getElem hlt⟩
                have ca : wr.cell? ⟨g12, k, none⟩ = some (.int .u32 a) := (hB.out.cell (p := ⟨g12, k, none⟩) H12.out.2.2.2.1).trans (H12.out.2.2.1 k _ (by unfold u32C; rw [List.getElem?_map, ha]; rfl))
                obtain ⟨b', off', rfl, hbl, hcl⟩ := H12.out.2.2.2.2.2 (by omega)
                have HA := Lib.hid (And.intro (List.mem_of_getElem? ha) (And.intro hbl hcl))
                clear ha hbl hcl
                obtain ⟨W13, hW13⟩ : ∃ W13, W13 = wr := ⟨_, rfl⟩
                have hbW : Below w12.heap.size w12 W13 := by rw [hW13]; exact hB.out
                have HBW := Lib.hid hbW
                clear hbW
                go_wp2_with (fail)
                rw [← hW13]
                clear hW13
                go_loopg [31, 33, 183] ys.length (fun gg v31 v33 v183 wr => ∃ (j : Nat) (b : Bool), v183 = .int .i64 (j : Int) ∧ v31 = .bool b ∧ Aside (gg + j = ys.length) ∧ Aside (b = true ↔ ∃ y ∈ ys.take j, a = (y : Int)) ∧ Aside (Below W13.heap.size W13 wr))
                case atStart => exact ⟨0, false, rfl, rfl, (by show _ = _; omega), (by show _ ↔ _; simp), Below.refl _ _⟩
                case round =>
                  obtain ⟨j, b, rfl, rfl, hgj, hbj, hBj⟩ := hrel
                  by_cases hjt : j < ys.length
                  · have hjtI : (j : Int) < (ys.length : Int) := by omega
                    obtain ⟨y, hy⟩ : ∃ y, ys[j]? = some y := ⟨_, List.getElem?_eq_getElem hjt⟩
                    have cy : wr.cell? ⟨b', off' + j, none⟩ = some (.int .u32 (y : Int)) := ((HBW.out.trans (hBj.out.mono HBW.out.size)).cell (p := ⟨b', off' + j, none⟩) HA.out.2.1).trans (HA.out.2.2 j y hy)
                    have hst : (∃ z ∈ ys.take (j + 1), a = (z : Int)) ↔ (b = true ∨ a = (y : Int)) := by
                      rw [List.take_add_one, hy, hbj.out]
                      constructor
                      · rintro ⟨z, hz, e⟩
                        rcases List.mem_append.1 hz with h | h
                        · exact .inl ⟨z, h, e⟩
                        · simp at h; subst h; exact .inr e
                      · rintro (⟨z, hz, e⟩ | e)
                        · exact ⟨z, List.mem_append.2 (.inl hz), e⟩
                        · exact ⟨y, List.mem_append.2 (.inr (by simp)), e⟩
                    have HST := Lib.hid hst
                    clear hst hy
                    cases b with
                    | true =>
                      go_wp2_with (fail)
                      go_roundg (ys.length - (j + 1))
                      case measure => have := hgj.out; omega
                      case rel => exact ⟨j + 1, true, by go_num, rfl, (by have := hgj.out; show _ = _; omega), (by show _ ↔ _; rw [HST.out]; simp), hBj.out⟩
                    | false =>
                      obtain ⟨z, hz⟩ : ∃ z, (a == (y : Int)) = z := ⟨_, rfl⟩
                      have HZ := Lib.hid hz
                      have hz2 : decide (a = (y : Int)) = z := by rw [← hz]; by_cases h : a = (y : Int) <;> simp [h]
                      go_wp2_with (fail)
                      go_roundg (ys.length - (j + 1))
                      case measure => have := hgj.out; omega
                      case rel => exact ⟨j + 1, z, by go_num, rfl, (by have := hgj.out; show _ = _; omega), (by show _ ↔ _; rw [HST.out, ← HZ.out]; simp), hBj.out⟩
                  · have hje : j = ys.length := by have := hgj.out; omega
                    subst hje
                    have hbt : b = true := by
                      rw [hbj.out, List.take_length]
                      exact H12.out.2.1 a HA.out.1
                    subst hbt
                    have HB2 := Lib.hid (HBW.out.trans (hBj.out.mono HBW.out.size))
                    clear hbj hBj hgj
                    go_wp2_with (fail)
                    go_roundg (Ls.length - (k + 1))
                    case measure => have := hgk.out; omega
                    case rel => exact ⟨k + 1, by go_num, (by have := hgk.out; show _ = _; omega), HB2.out⟩
              · have hLpI : (0 : Int) < (Ls.length : Int) := by omega
                have HBB := Lib.hid (H12.out.1.trans (hB.out.mono H12.out.1.size))
                go_wp2_with (fail)
                go_ret
                exact ⟨ret_b (by simp), HBB.out⟩
end Go.Proofs.Ytfipacfompihkaa
