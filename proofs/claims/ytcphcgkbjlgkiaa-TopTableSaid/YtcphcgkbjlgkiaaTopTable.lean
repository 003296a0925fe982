/- The law TopTable, walked. -/
import Derived.Test.YtcphcgkbjlgkiaaTopTableM
import Derived.Test.YtcphcgkbjlgkiaaTopBegin
import Derived.Test.YtcphcgkbjlgkiaaKeyedTells
import Derived.Test.YtcphcgkbjlgkiaaStampL
import Derived.Deep.RegionHeld3
namespace Go.Proofs.Ytcphcgkbjlgkiaa
open Go.RowKit

theorem sumN_bd (k l : List UInt8) : 0 ≤ sumN k l ∧ sumN k l ≤ 18446744073709551615 := by
  unfold sumN
  split
  · have := U_bd (sumB k l); omega
  · omega
theorem bt_any (s : Nat) (hs : s < 4294967296) (w : World) : Calls Try.prog 13 #[.int .u64 (s : Int)] w fun e w' => e = .returned (.string (bt s)) ∧ Below w.heap.size w w' := bytes_any s (by omega) w
theorem add0 (s : Nat) (hs : s < 4294967296) (w : World) : Calls Try.prog 14 #[.int .u32 (s : Int), .int .i64 0] w fun e w' => e = .returned (.int .u32 (s : Int)) ∧ w = w' := by
  have := add_any (s : Int) 0 w
  rw [show ((s : Int) + 0) % 4294967296 = (s : Int) by omega] at this
  exact this
theorem sumE_bt {key : ByteArray} (h : key.size = 16) (s : Nat) : sumE key.data.toList (bt s).data.toList = 0 := by
  unfold sumE
  have h1 : key.data.toList.length = 16 := by simpa using h
  have h2 : (bt s).data.toList.length = 8 := by have := bt_size s; simpa using this
  rw [if_neg (by omega), if_neg (by omega)]
theorem putYes {xs : List Entry} {key : ByteArray} {s : Nat} {n : Int} (h : putE xs key (bt s) = 0) (i : Bool) (A : Option Addr) (c : Nat) (w : World) (hT : Tab w A xs) (hbig : xs.length ≤ 9223372036854775807) (hk : key.size ≤ 9223372036854775807) (hn : 0 ≤ n ∧ n ≤ 18446744073709551615) :
    Calls Try.prog 16 #[.agg #[.bool i, .slice A xs.length c], .string key, .string (bt s), .int .u64 n] w fun e w' => ∃ A' c', e = .returned (.tuple #[.agg #[.bool true, .slice A' (putL xs key (bt s) n).length c'], .int .i64 0]) ∧ Tab w' A' (putL xs key (bt s) n) ∧ Below w.heap.size w w' := by
  refine (put_any i xs A c key (bt s) n w hT hbig hk (by rw [bt_size]; omega) hn).mono ?_
  rintro e w' ⟨A', c', he, hT', _, hb⟩
  rw [h] at he
  exact ⟨A', c', by simpa using he, hT', hb⟩
theorem putNot {xs : List Entry} {key : ByteArray} {s : Nat} {n : Int} (h : putE xs key (bt s) = 4) (i : Bool) (A : Option Addr) (c : Nat) (w : World) (hT : Tab w A xs) (hbig : xs.length ≤ 9223372036854775807) (hk : key.size ≤ 9223372036854775807) (hn : 0 ≤ n ∧ n ≤ 18446744073709551615) :
    Calls Try.prog 16 #[.agg #[.bool i, .slice A xs.length c], .string key, .string (bt s), .int .u64 n] w fun e w' => ∃ A' c', e = .returned (.tuple #[.agg #[.bool false, .slice A' 0 c'], .int .i64 4]) ∧ Below w.heap.size w w' := by
  refine (put_any i xs A c key (bt s) n w hT hbig hk (by rw [bt_size]; omega) hn).mono ?_
  rintro e w' ⟨A', c', he, hT', _, hb⟩
  have h1 : putL xs key (bt s) n = [] := by unfold putL; rw [if_neg (by rw [h]; decide)]
  rw [h, h1] at he
  exact ⟨A', c', by simpa using he, hb⟩
theorem keep2D {V W : World} {a : Nat} {x0 x1 : Option Value}
    (H : W.cell? ⟨a, 0, none⟩ = x0 ∧ W.cell? ⟨a, 1, none⟩ = x1 ∧ V.heap.size ≤ W.heap.size ∧ Below V.heap.size V W) :
    W.drew.cell? ⟨a, 0, none⟩ = x0 ∧ W.drew.cell? ⟨a, 1, none⟩ = x1 ∧ V.heap.size ≤ W.drew.heap.size ∧ Below V.heap.size V W.drew := ⟨H.1, H.2.1, H.2.2.1, H.2.2.2.drew⟩
theorem keep2C {V W w' : World} {a : Nat} {x0 x1 : Option Value} (ha : a < V.heap.size)
    (H : W.cell? ⟨a, 0, none⟩ = x0 ∧ W.cell? ⟨a, 1, none⟩ = x1 ∧ V.heap.size ≤ W.heap.size ∧ Below V.heap.size V W) (hw : Below W.heap.size W w') :
    w'.cell? ⟨a, 0, none⟩ = x0 ∧ w'.cell? ⟨a, 1, none⟩ = x1 ∧ V.heap.size ≤ w'.heap.size ∧ Below V.heap.size V w' := by
  obtain ⟨h0, h1, h2, h3⟩ := H
  have ha' : a < W.heap.size := by omega
  exact ⟨(hw.cell (p := ⟨a, 0, none⟩) ha').trans h0, (hw.cell (p := ⟨a, 1, none⟩) ha').trans h1, Nat.le_trans h2 hw.size, h3.trans (hw.mono h2)⟩
theorem last4 {a b c d : Prop} (H : a ∧ b ∧ c ∧ d) : d := H.2.2.2

theorem tab_apart {w : World} {g b off : Nat} {t : TypeId} {i : Bool} {A : Option Addr} {n c : Nat} {ys : List Entry} (hB : Blk w g t #[.bool i, .slice A n c]) (hT : Tab w (some ⟨b, off, none⟩) ys) (hp : 0 < ys.length) : b ≠ g := by
  rintro rfl
  obtain ⟨b', o', hA, _, hc⟩ := hT.2 hp
  injection hA with hA
  injection hA with h1 h2
  subst h1 h2
  have h0 := hc 0 ys[0] (List.getElem?_eq_getElem hp) 0 _ rfl
  have h1 := hB.cell (off + 0 * 3 + 0)
  rw [h0] at h1
  match off, h1 with
  | 0, h1 => simp [Entry.vs] at h1
  | 1, h1 => simp [Entry.vs] at h1
  | k + 2, h1 => simp at h1
theorem Tab.set2 {w : World} {g : Nat} {t : TypeId} {i : Bool} {A A' : Option Addr} {n c : Nat} {ys : List Entry} (hT : Tab w A ys) (hB : Blk w g t #[.bool i, .slice A' n c]) (a b : Value) :
    Tab ((w.setCell ⟨g, 0, none⟩ a).setCell ⟨g, 1, none⟩ b) A ys := by
  rcases Nat.eq_zero_or_pos ys.length with h0 | hp
  · rw [List.eq_nil_of_length_eq_zero h0]; exact tab_nil _ _
  · obtain ⟨b', off, rfl, _, _⟩ := hT.2 hp
    have hne := tab_apart hB hT hp
    exact (hT.far (p := ⟨g, 0, none⟩) (fun h => hne h.symm) _).far (p := ⟨g, 1, none⟩) (fun h => hne h.symm) _
theorem Blk.set2 {w : World} {g : Nat} {t : TypeId} {x y : Value} (hB : Blk w g t #[x, y]) (a b : Value) : Blk ((w.setCell ⟨g, 0, none⟩ a).setCell ⟨g, 1, none⟩ b) g t #[a, b] := (hB.set_ 0 a).set_ 1 b
theorem below_set2 {w V : World} {B g : Nat} (h : Below B w V) (hg : B ≤ g) (a b : Value) : Below B w ((V.setCell ⟨g, 0, none⟩ a).setCell ⟨g, 1, none⟩ b) := (h.setCell (p := ⟨g, 0, none⟩) hg a).setCell (p := ⟨g, 1, none⟩) hg b
theorem Tab.new {w : World} {A : Option Addr} {ys : List Entry} (h : Tab w A ys) (o : Obj) : Tab (w.alloc o) A ys := h.below ((Below.refl _ _).alloc (Nat.le_refl _) _)

set_option maxRecDepth 100000 in
set_option maxHeartbeats 2000000 in
theorem topTable_out (key : ByteArray) (A : Option Addr) (ss : List Nat) (c : Nat) (o : Nat) (hk : key.size ≤ maxLen) (h : key.size ≠ 16 ∨ 40 < ss.length) (hl : ss.length ≤ maxLen) (w : World) :
    Calls Try.prog 3 #[.string key, .slice A ss.length c, .int .u32 (o : Int)] w fun e w' => e = .returned (.bool true) ∧ Below w.heap.size w w' := by
  have hT : ((key.size : Int) != 16) = true ∨ (((key.size : Int) != 16) = false ∧ (40 : Int) < (ss.length : Int)) := by
    by_cases h1 : key.size = 16
    · right; refine ⟨by simp [h1], ?_⟩; rcases h with h | h <;> omega
    · left; simp only [bne_iff_ne, ne_eq]; omega
  unfold maxLen at hk hl
  clear h
  rcases hT with h1 | ⟨h1, h2⟩
  all_goals
    go_enter Try.func3, Try.ntmps3
    go_wp2_with (fail)
    refine (begins_any _).mono ?_
    rintro e w1 ⟨rfl, hb1⟩
    have B1 := Lib.hid hb1
    clear hb1
    go_wp2_with (fail)
    go_ret
    exact ⟨rfl, B1.out⟩

set_option maxRecDepth 100000 in
set_option maxHeartbeats 4000000 in
theorem topTable_main (key : ByteArray) (A : Option Addr) (ss : List Nat) (c : Nat) (o : Nat) (hk : key.size = 16) (hl : ss.length ≤ 40) (ho : o < 4294967296) (w : World) (hU : U32s w A ss) :
    Calls Try.prog 3 #[.string key, .slice A ss.length c, .int .u32 (o : Int)] w fun e w' => e = .returned (.bool true) ∧ Below w.heap.size w w' := by
  have h16 : ((key.size : Int) != 16) = false := by simp [hk]
  have h40 : ¬ (40 : Int) < (ss.length : Int) := by omega
  have HK := Lib.hid hk
  have HU := Lib.hid hU
  have HO := Lib.hid (fun W => bt_any o ho W)
  have HKn := Lib.hid ho
  have hol : (o : Int) ≤ 4294967295 := by omega
  clear hk hU ho
  go_enter Try.func3, Try.ntmps3
  go_wp2_with (fail)
  refine (begins_any _).mono ?_
  rintro e w1 ⟨rfl, hb1⟩
  have hsz1 := hb1.size
  have B1 := Lib.hid hb1
  clear hb1
  go_wp2_with (fail)
  go_loopg [8, 35] ss.length (fun g s8 s35 wr => ∃ (m : Nat) (i : Bool) (A' : Option Addr) (c' : Nat) (xs : List Entry), g + m = ss.length ∧ m ≤ ss.length ∧ s35 = .int .i64 (m : Int) ∧ s8 = .bool (decide (o ∈ ss.take m)) ∧ Aside (TI key (ss.take m) xs) ∧ Aside (Tab wr A' xs) ∧ Aside (Blk wr w1.heap.size 27 #[.bool i, .slice A' xs.length c']) ∧ Aside (Below w.heap.size w wr))
  case atStart =>
    refine ⟨0, false, none, 0, [], by omega, by omega, rfl, by simp, TI.nil key, tab_nil _ _, Blk.new w1 _ _, ?_⟩
    exact B1.out.alloc B1.out.size _
  case round =>
    obtain ⟨m, i, A', c', xs, hg, hm, rfl, rfl, hTI, hT, hB, hbw⟩ := hrel
    have c0 := hB.out.cell 0
    have c1 := hB.out.cell 1
    have f0 := hB.out.frozen 0
    have f1 := hB.out.frozen 1
    have hlB := hB.out.lt
    simp at c0 c1
    have hxl := hTI.out.len
    rw [List.length_take] at hxl
    have hbig : xs.length ≤ 9223372036854775807 := by omega
    by_cases hlt : m < ss.length
    · have hUr := HU.out.below hbw.out
      obtain ⟨b, off, rfl, hbs, hc⟩ := hUr.2 (by omega)
      obtain ⟨s, hs⟩ : ∃ s, ss[m]? = some s := ⟨_, List.getElem?_eq_getElem hlt⟩
      have hs32 : s < 4294967296 := hUr.1 s (List.mem_of_getElem? hs)
      have e0 := hc m s hs
      have hmi : (m : Int) < (ss.length : Int) := by omega
      have htk : ss.take (m + 1) = ss.take m ++ [s] := by
        rw [List.take_add_one, hs]; rfl
      have hE := sumE_bt HK.out s
      have HA0 := Lib.hid (fun W => add0 s hs32 W)
      have HB0 := Lib.hid (fun W => bt_any s hs32 W)
      have HS := Lib.hid (fun W => sum_x (x := sumN key.data.toList (bt s).data.toList) (y := 0) (key := key) (text := bt s) rfl hE (by rw [HK.out]; omega) (by rw [bt_size]; omega) W)
      have hnb : 0 ≤ sumN key.data.toList (bt s).data.toList ∧ sumN key.data.toList (bt s).data.toList ≤ 18446744073709551615 := sumN_bd _ _
      have hsl : (s : Int) ≤ 4294967295 := by omega
      have HTK := Lib.hid htk
      have HX := Lib.hid hs
      have hkb : key.size ≤ 9223372036854775807 := by rw [HK.out]; omega
      have hmem : decide (o ∈ ss.take (m + 1)) = (decide (o ∈ ss.take m) || ((s : Int) == (o : Int))) := by
        rw [htk, Bool.eq_iff_iff]
        simp only [List.mem_append, List.mem_singleton, decide_eq_true_eq, Bool.or_eq_true, beq_iff_eq]
        constructor
        · rintro (h | h)
          · exact .inl h
          · right; omega
        · rintro (h | h)
          · exact .inl h
          · right; omega
      have HM := Lib.hid hmem
      clear hmem htk hs hs32 hUr hc
      have hkn : ∀ b, decide (o ∈ ss.take m) = b → Hid (decide (o ∈ ss.take (m + 1)) = (b || ((s : Int) == (o : Int)))) := by
        rintro b rfl; exact HM
      generalize hkb2 : decide (o ∈ ss.take m) = kn at hkn ⊢
      have HKN := hkn kn rfl
      clear hkn hkb2 HM
      have hcase : kn = true ∨ (kn = false ∧ ((s : Int) == (o : Int)) = true) ∨ (kn = false ∧ ((s : Int) == (o : Int)) = false) := by
        cases kn <;> cases ((s : Int) == (o : Int)) <;> simp
      have hput : putE xs key (bt s) = 0 ∨ putE xs key (bt s) = 4 := putE_cases hE (by omega)
      have HE := Lib.hid hE
      clear hE
      obtain ⟨kn', hkn', hcase⟩ : ∃ kn', Hid (decide (o ∈ ss.take (m + 1)) = kn') ∧ ((kn = true ∧ kn' = true) ∨ (kn = false ∧ ((s : Int) == (o : Int)) = true ∧ kn' = true) ∨ (kn = false ∧ ((s : Int) == (o : Int)) = false ∧ kn' = false)) := by
        refine ⟨_, HKN, ?_⟩
        rcases hcase with h | ⟨h, h2⟩ | ⟨h, h2⟩
        · left; simp [h]
        · right; left; simp [h, h2]
        · right; right; simp [h, h2]
      clear HKN
      obtain ⟨n, hn⟩ : ∃ n, sumN key.data.toList (bt s).data.toList = n := ⟨_, rfl⟩
      rw [hn] at HS hnb
      have HN := Lib.hid hn
      clear hn hxl
      rcases hput with hput | hput
      · have HP := Lib.hid (fun A c w hT => putYes (n := n) hput i A c w hT hbig hkb hnb)
        have HTI := Lib.hid (hTI.out.put s hput)
        have HPE := Lib.hid hput
        rw [HN.out] at HTI
        clear hput
        generalize putL xs key (bt s) n = ys at HP HTI
        clear hnb
        rcases hcase with ⟨rfl, rfl⟩ | ⟨rfl, h5, rfl⟩ | ⟨rfl, h5, rfl⟩
        all_goals
          go_wp2_with (fail)
          refine (HA0.out _).mono ?_
          rintro e w2 ⟨rfl, rfl⟩
          go_wp2_with (fail)
          refine (HB0.out _).mono ?_
          rintro e w2 ⟨rfl, hb2⟩
          have hBk2 := hB.out.below hb2 hlB
          have hB2 := Lib.hid (hbw.out.trans (hb2.mono hbw.out.size))
          have hT2 := Lib.hid (hT.out.below hb2)
          clear hb2 c0 c1 f0 f1
          go_wp2_with (fail)
          refine (HS.out _).mono ?_
          rintro e w3 ⟨rfl, hb3⟩
          have hBk3 := hBk2.below hb3 hBk2.lt
          have c0 := hBk3.cell 0
          have c1 := hBk3.cell 1
          simp at c0 c1
          have hB3 := Lib.hid (hB2.out.trans (hb3.mono hB2.out.size))
          have hT3 := Lib.hid (hT2.out.below hb3)
          have HBk3 := Lib.hid hBk3
          clear hb3 hBk2 hBk3
          go_wp2_with (fail)
          refine (HP.out _ _ _ hT3.out).mono ?_
          rintro e w4 ⟨A4, c4, rfl, hT4, hb4⟩
          have hBk4 := HBk3.out.below hb4 HBk3.out.lt
          have f0 := hBk4.frozen 0
          have f1 := hBk4.frozen 1
          have c0 := hBk4.cell 0
          have c1 := hBk4.cell 1
          simp at c0 c1
          have hl4 := hBk4.lt
          have hB4 := Lib.hid (hB3.out.trans (hb4.mono hB3.out.size))
          have HT4 := Lib.hid hT4
          have HBk4 := Lib.hid hBk4
          have hne : w1.heap.size ≠ w4.heap.size := by omega
          clear hb4 hBk4 hT4
          go_wp2_with (fail)
          go_roundg (ss.length - (m + 1))
          case measure => omega
          case rel =>
            refine ⟨m + 1, true, A4, c4, ys, by omega, by omega, by go_num, by rw [hkn'.out], by rw [HTK.out]; exact HTI.out, ?_, ?_, ?_⟩
            · exact (HT4.out.set2 HBk4.out _ _).new _
            · exact (HBk4.out.set2 _ _).alloc _
            · exact (below_set2 hB4.out hsz1 _ _).alloc (by simp [World.setCell]; omega) _
      · have HP := Lib.hid (fun A c w hT => putNot (n := n) hput i A c w hT hbig hkb hnb)
        have HTI := Lib.hid (hTI.out.twice s hput HE.out)
        clear hput hnb
        rcases hcase with ⟨rfl, rfl⟩ | ⟨rfl, h5, rfl⟩ | ⟨rfl, h5, rfl⟩
        all_goals
          go_wp2_with (fail)
          refine (HA0.out _).mono ?_
          rintro e w2 ⟨rfl, rfl⟩
          go_wp2_with (fail)
          refine (HB0.out _).mono ?_
          rintro e w2 ⟨rfl, hb2⟩
          have hBk2 := hB.out.below hb2 hlB
          have hB2 := Lib.hid (hbw.out.trans (hb2.mono hbw.out.size))
          have hT2 := Lib.hid (hT.out.below hb2)
          clear hb2 c0 c1 f0 f1
          go_wp2_with (fail)
          refine (HS.out _).mono ?_
          rintro e w3 ⟨rfl, hb3⟩
          have hBk3 := hBk2.below hb3 hBk2.lt
          have c0 := hBk3.cell 0
          have c1 := hBk3.cell 1
          simp at c0 c1
          have hB3 := Lib.hid (hB2.out.trans (hb3.mono hB2.out.size))
          have hT3 := Lib.hid (hT2.out.below hb3)
          have HBk3 := Lib.hid hBk3
          clear hb3 hBk2 hBk3
          go_wp2_with (fail)
          refine (HP.out _ _ _ hT3.out).mono ?_
          rintro e w4 ⟨A4, c4, rfl, hb4⟩
          have hBk4 := HBk3.out.below hb4 HBk3.out.lt
          have f0 := hBk4.frozen 0
          have f1 := hBk4.frozen 1
          have c0 := hBk4.cell 0
          have c1 := hBk4.cell 1
          simp at c0 c1
          have hl4 := hBk4.lt
          have hB4 := Lib.hid (hB3.out.trans (hb4.mono hB3.out.size))
          have HT4 := Lib.hid (hT3.out.below hb4)
          have HBk4 := Lib.hid hBk4
          have hne : w1.heap.size ≠ w4.heap.size := by omega
          clear hb4 hBk4
          go_wp2_with (fail)
          go_roundg (ss.length - (m + 1))
          case measure => omega
          case rel =>
            refine ⟨m + 1, i, A', c', xs, by omega, by omega, by go_num, by rw [hkn'.out], by rw [HTK.out]; exact HTI.out, ?_, ?_, ?_⟩
            · exact HT4.out.new _
            · exact HBk4.out.alloc _
            · exact hB4.out.alloc (by omega) _
    · obtain rfl : m = ss.length := by omega
      have hTI' := hTI.out
      rw [List.take_length] at hTI' ⊢
      have hge : ¬ (ss.length : Int) < (ss.length : Int) := by omega
      have hkb : key.size ≤ 9223372036854775807 := by rw [HK.out]; omega
      have hkn := hTI'.known HU.out.1 HKn.out
      have HOf := Lib.hid (fun (s : Nat) (hs : s ∈ ss) (A : Option Addr) (c : Nat) (W : World) (hT : Tab W A xs) => of_hash true xs A c key (bt s) W hT hbig hkb (by rw [bt_size]; omega))
      have HOf0 := Lib.hid (fun (s : Nat) (W : World) => of_hash false [] none 0 key (bt s) W (tab_nil _ _) (by simp) hkb (by rw [bt_size]; omega))
      have HKw := Lib.hid (fun (W : World) (hT : Tab W A' xs) => known_any true xs A' c' key (bt o) W hT hbig)
      rw [hkn] at HKw
      generalize decide (o ∈ ss) = kn at HKw ⊢
      have HCk : Hid (∀ (W : World), Tab W A' xs → Calls Try.prog 19 #[.agg #[.bool true, .slice A' xs.length c']] W fun e w' => e = .returned (.int .i64 0) ∧ Below W.heap.size W w') :=
        Lib.hid (fun W hT => check_is (hTI'.chk (by omega)) true A' c' W hT hbig)
      have HTI := Lib.hid hTI'
      have HT := Lib.hid hT.out
      have HB := Lib.hid hB.out
      have HW := Lib.hid hbw.out
      clear hTI hTI' hkn hT hB hbw hm hlt
      go_wp2_with (fail)
      have hB2 : Blk (wr.setCell ⟨w1.heap.size, 0, none⟩ (.bool true)) w1.heap.size 27 #[.bool true, .slice A' xs.length c'] := HB.out.set_ 0 _
      have hT2 : Tab (wr.setCell ⟨w1.heap.size, 0, none⟩ (.bool true)) A' xs := by
        rcases Nat.eq_zero_or_pos xs.length with h0 | hp
        · rw [List.eq_nil_of_length_eq_zero h0]; exact tab_nil _ _
        · obtain ⟨b', off, rfl, _, _⟩ := HT.out.2 hp
          exact HT.out.far (fun h => tab_apart HB.out HT.out hp h.symm) _
      have hW2 : Below w.heap.size w (wr.setCell ⟨w1.heap.size, 0, none⟩ (.bool true)) := HW.out.setCell (p := ⟨w1.heap.size, 0, none⟩) hsz1 _
      have H2 := Lib.hid (And.intro hB2 (And.intro hT2 hW2))
      clear hB2 hT2 hW2 HT HB HW c0 c1 f0 f1 hlB hxl hg
      go_loopg [74] ss.length (fun g s74 wr => ∃ (m : Nat), g + m = ss.length ∧ m ≤ ss.length ∧ s74 = .int .i64 (m : Int) ∧ Aside (Tab wr A' xs) ∧ Aside (Blk wr w1.heap.size 27 #[.bool true, .slice A' xs.length c']) ∧ Aside (Below w.heap.size w wr))
      case atStart =>
        exact ⟨0, by omega, by omega, rfl, H2.out.2.1, H2.out.1, H2.out.2.2⟩
      case round =>
        rename World => wq
        obtain ⟨m, hg, hm, rfl, hT, hB, hbw⟩ := hrel
        have c0 := hB.out.cell 0
        have c1 := hB.out.cell 1
        have hlB := hB.out.lt
        simp at c0 c1
        by_cases hlt : m < ss.length
        · have hUr := HU.out.below hbw.out
          obtain ⟨b, off, rfl, hbs, hc⟩ := hUr.2 (by omega)
          obtain ⟨s, hs⟩ : ∃ s, ss[m]? = some s := ⟨_, List.getElem?_eq_getElem hlt⟩
          have hs32 : s < 4294967296 := hUr.1 s (List.mem_of_getElem? hs)
          have e0 := hc m s hs
          have hmi : (m : Int) < (ss.length : Int) := by omega
          have hmem := List.mem_of_getElem? hs
          have hE := sumE_bt HK.out s
          have ho1 := fun A c W hT => HOf.out s hmem A c W hT
          have ho2 := fun W => HOf0.out s W
          rw [HTI.out.of hmem hE, hE] at ho1
          rw [hE, show ofN false [] key (bt s) = sumN key.data.toList (bt s).data.toList by unfold ofN; rw [if_neg (by simp)]] at ho2
          simp only [List.length_nil] at ho2
          generalize sumN key.data.toList (bt s).data.toList = n at ho1 ho2
          have HB0 := Lib.hid (fun W => bt_any s hs32 W)
          have HO1 := Lib.hid ho1
          have HO2 := Lib.hid ho2
          have hsl : (s : Int) ≤ 4294967295 := by omega
          clear ho1 ho2 hE hmem hs hs32 hUr hc hge
          go_wp2_with (fail)
          refine (HB0.out _).mono ?_
          rintro e w2 ⟨rfl, hb2⟩
          have hBk2 := hB.out.below hb2 hlB
          have c0 := hBk2.cell 0
          have c1 := hBk2.cell 1
          simp at c0 c1
          have hB2 := Lib.hid (hbw.out.trans (hb2.mono hbw.out.size))
          have hT2 := Lib.hid (hT.out.below hb2)
          have HBk2 := Lib.hid hBk2
          clear hb2 hBk2
          go_wp2_with (fail)
          refine (HO1.out _ _ _ hT2.out).mono ?_
          rintro e w3 ⟨rfl, hb3⟩
          have HBk3 := Lib.hid (HBk2.out.below hb3 HBk2.out.lt)
          have hB3 := Lib.hid (hB2.out.trans (hb3.mono hB2.out.size))
          have hT3 := Lib.hid (hT2.out.below hb3)
          clear hb3
          go_wp2_with (fail)
          refine (HO2.out _).mono ?_
          rintro e w4 ⟨rfl, hb4⟩
          have HBk4 := Lib.hid (HBk3.out.below hb4 HBk3.out.lt)
          have hB4 := Lib.hid (hB3.out.trans (hb4.mono hB3.out.size))
          have hT4 := Lib.hid (hT3.out.below hb4)
          clear hb4
          go_wp2_with (fail)
          go_roundg (ss.length - (m + 1))
          case measure => omega
          case rel => exact ⟨m + 1, by omega, by omega, by go_num, hT4.out, HBk4.out, hB4.out⟩
        · obtain rfl : m = ss.length := by omega
          have hol2 : (o : Int) ≤ 18446744073709551615 := by omega
          clear hlt hm hg
          go_wp2_with (fail)
          rename World => V
          have hs0 := hlB
          have HOw := Lib.hid (fun W => bt_any o HKn.out W)
          rw [← show IntKind.u64.wrap (o : Int) = (o : Int) from IntWalk.u64_in _ (by omega)] at HOw
          have JK := Lib.hid (fun (W : World) (h : Below V.heap.size V W) => HKw.out W (hT.out.below h))
          have JC := Lib.hid (fun (W : World) (h : Below V.heap.size V W) => HCk.out W (hT.out.below h))
          have HBV := Lib.hid hbw.out
          have hrefl : Below V.heap.size V V := Below.refl _ _
          clear HKw HCk hT hB hbw HOf HOf0 HTI H2 HU B1 hlB hge hbig hkb
          cases kn
          all_goals
            go_region_held3 (fun w' => w'.cell? ⟨w1.heap.size, 0, none⟩ = some (.bool true) ∧ w'.cell? ⟨w1.heap.size, 1, none⟩ = some (.slice A' xs.length c') ∧ V.heap.size ≤ w'.heap.size ∧ Below V.heap.size V w')
              (first | assumption | exact ⟨c0, c1, Nat.le_refl _, hrefl⟩ | exact keep2D (by assumption) | exact keep2D ⟨c0, c1, Nat.le_refl _, hrefl⟩ | exact keep2C hs0 (by assumption) hb | exact keep2C hs0 (keep2D (by assumption)) hb | exact keep2C hs0 (keep2D ⟨c0, c1, Nat.le_refl _, hrefl⟩) hb | exact keep2C hs0 ⟨c0, c1, Nat.le_refl _, hrefl⟩ hb)
              (first
                | (go_at_call 13; refine (HOw.out _).mono ?_; rintro e w' ⟨rfl, hb⟩; have hbs := hb.size)
                | (go_at_call 18; refine (JK.out _ (last4 (by assumption))).mono ?_; rintro e w' ⟨rfl, hb⟩; have hbs := hb.size)
                | (go_at_call 19; refine (JC.out _ (last4 (by assumption))).mono ?_; rintro e w' ⟨rfl, hb⟩; have hbs := hb.size))
          all_goals
            go_wp2
            go_ret
            exact ⟨rfl, HBV.out.trans (Below.mono (last4 (by assumption)) HBV.out.size)⟩

theorem topTable_law (w : World) (key : ByteArray) (A : Option Addr) (ss : List Nat) (c : Nat) (o : Int) (hk : key.size ≤ maxLen) (hU : U32s w A ss) (hc : ss.length ≤ c) (hm : c ≤ maxLen) (ho : 0 ≤ o ∧ o ≤ 4294967295) :
    Calls Try.prog 3 #[.string key, .slice A ss.length c, .int .u32 o] w fun e w' => e = .returned (.bool true) ∧ Below w.heap.size w w' := by
  obtain ⟨x, rfl⟩ := Int.eq_ofNat_of_zero_le ho.1
  by_cases h : key.size ≠ 16 ∨ 40 < ss.length
  · exact topTable_out key A ss c x hk h (by omega) w
  · exact topTable_main key A ss c x (by omega) (by omega) (by omega) w hU
end Go.Proofs.Ytcphcgkbjlgkiaa
