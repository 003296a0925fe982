/- The law KeyedTells, walked. -/
import Derived.Test.YthpicdilonlgiaaKeyedLives
import Derived.Deep.RegionHeld3
namespace Go.Proofs.Ythpicdilonlgiaa
open Go.RowKit Go.Lib

theorem chk_v (xs : List Entry) : ∃ v, ChkIs xs v := by
  rcases Classical.em (xs.length ≤ 4096 ∧ SndTo xs xs.length) with h | h
  · exact ⟨0, .inl ⟨rfl, h⟩⟩
  · exact ⟨2, .inr ⟨rfl, h⟩⟩
theorem ap_v (xs : List Entry) : ∃ v, ApIs xs v := by
  rcases Classical.em (Ap xs) with h | h
  · exact ⟨true, .inl ⟨rfl, h⟩⟩
  · exact ⟨false, .inr ⟨rfl, h⟩⟩

theorem check_is {xs : List Entry} {v : Int} (hv : ChkIs xs v) (i : Bool) (A : Option Addr) (c : Nat) (W : World) (h : Tab W A xs) (hbig : xs.length ≤ 9223372036854775807) :
    Calls Try.prog 52 #[.agg #[.bool i, .slice A xs.length c]] W fun e w' => e = .returned (.int .i64 v) ∧ Below W.heap.size W w' :=
  (check_any i xs A c W h hbig).mono fun _ _ ⟨v', hv', he, hb⟩ => ⟨by rw [he, hv'.eq hv], hb⟩
theorem rcheck_is {xs : List Entry} {v : Int} (hv : ChkIs xs v) (i : Bool) (A : Option Addr) (c : Nat) (W : World) (h : Tab W A xs) (hbig : xs.length ≤ 9223372036854775807) (hc : xs.length ≤ c) :
    Calls Try.prog 53 #[.agg #[.bool i, .slice A xs.length c]] W fun e w' => e = .returned (.int .i64 v) ∧ Below W.heap.size W w' :=
  (rcheck_any i xs A c W h hbig hc).mono fun _ _ ⟨v', hv', he, hb⟩ => ⟨by rw [he, hv'.eq hv], hb⟩
theorem apart_is {xs : List Entry} {v : Bool} (hv : ApIs xs v) (i : Bool) (A : Option Addr) (c : Nat) (W : World) (h : Tab W A xs) (hbig : xs.length ≤ 9223372036854775807) :
    Calls Try.prog 54 #[.agg #[.bool i, .slice A xs.length c]] W fun e w' => e = .returned (.bool v) ∧ Below W.heap.size W w' :=
  (apart_any i xs A c W h hbig).mono fun _ _ ⟨v', hv', he, hb⟩ => ⟨by rw [he, hv'.eq hv], hb⟩
theorem rapart_is {xs : List Entry} {v : Bool} (hv : ApIs xs v) (i : Bool) (A : Option Addr) (c : Nat) (W : World) (h : Tab W A xs) (hbig : xs.length ≤ 9223372036854775807) (hc : xs.length ≤ c) :
    Calls Try.prog 55 #[.agg #[.bool i, .slice A xs.length c]] W fun e w' => e = .returned (.bool v) ∧ Below W.heap.size W w' :=
  (rapart_any i xs A c W h hbig hc).mono fun _ _ ⟨v', hv', he, hb⟩ => ⟨by rw [he, hv'.eq hv], hb⟩
theorem keepD {V W : World} {a b c : Nat} {x0 x1 y0 y1 z0 z1 : Option Value}
    (H : W.cell? ⟨a, 0, none⟩ = x0 ∧ W.cell? ⟨a, 1, none⟩ = x1 ∧ W.cell? ⟨b, 0, none⟩ = y0 ∧ W.cell? ⟨b, 1, none⟩ = y1 ∧ W.cell? ⟨c, 0, none⟩ = z0 ∧ W.cell? ⟨c, 1, none⟩ = z1 ∧ V.heap.size ≤ W.heap.size ∧ Below V.heap.size V W) :
    W.drew.cell? ⟨a, 0, none⟩ = x0 ∧ W.drew.cell? ⟨a, 1, none⟩ = x1 ∧ W.drew.cell? ⟨b, 0, none⟩ = y0 ∧ W.drew.cell? ⟨b, 1, none⟩ = y1 ∧ W.drew.cell? ⟨c, 0, none⟩ = z0 ∧ W.drew.cell? ⟨c, 1, none⟩ = z1 ∧ V.heap.size ≤ W.drew.heap.size ∧ Below V.heap.size V W.drew :=
  ⟨H.1, H.2.1, H.2.2.1, H.2.2.2.1, H.2.2.2.2.1, H.2.2.2.2.2.1, H.2.2.2.2.2.2.1, H.2.2.2.2.2.2.2.drew⟩
theorem keepC {V W w' : World} {a b c : Nat} {x0 x1 y0 y1 z0 z1 : Option Value} (ha : a < V.heap.size) (hb : b < V.heap.size) (hc : c < V.heap.size)
    (H : W.cell? ⟨a, 0, none⟩ = x0 ∧ W.cell? ⟨a, 1, none⟩ = x1 ∧ W.cell? ⟨b, 0, none⟩ = y0 ∧ W.cell? ⟨b, 1, none⟩ = y1 ∧ W.cell? ⟨c, 0, none⟩ = z0 ∧ W.cell? ⟨c, 1, none⟩ = z1 ∧ V.heap.size ≤ W.heap.size ∧ Below V.heap.size V W) (hw : Below W.heap.size W w') :
    w'.cell? ⟨a, 0, none⟩ = x0 ∧ w'.cell? ⟨a, 1, none⟩ = x1 ∧ w'.cell? ⟨b, 0, none⟩ = y0 ∧ w'.cell? ⟨b, 1, none⟩ = y1 ∧ w'.cell? ⟨c, 0, none⟩ = z0 ∧ w'.cell? ⟨c, 1, none⟩ = z1 ∧ V.heap.size ≤ w'.heap.size ∧ Below V.heap.size V w' := by
  obtain ⟨h0, h1, h2, h3, h4, h5, h6, h7⟩ := H
  have ha' : a < W.heap.size := by omega
  have hb' : b < W.heap.size := by omega
  have hc' : c < W.heap.size := by omega
  exact ⟨(hw.cell (p := ⟨a, 0, none⟩) ha').trans h0, (hw.cell (p := ⟨a, 1, none⟩) ha').trans h1, (hw.cell (p := ⟨b, 0, none⟩) hb').trans h2, (hw.cell (p := ⟨b, 1, none⟩) hb').trans h3, (hw.cell (p := ⟨c, 0, none⟩) hc').trans h4, (hw.cell (p := ⟨c, 1, none⟩) hc').trans h5, Nat.le_trans h6 hw.size, h7.trans (hw.mono h6)⟩
theorem last8 {a b c d e f g h : Prop} (H : a ∧ b ∧ c ∧ d ∧ e ∧ f ∧ g ∧ h) : h := H.2.2.2.2.2.2.2
theorem putL_le (xs : List Entry) (k s : ByteArray) (n : Int) : (putL xs k s n).length ≤ xs.length + 1 := by
  unfold putL; split <;> simp

set_option maxHeartbeats 8000000 in
set_option maxRecDepth 100000 in
theorem keyedTells_lives (i : Bool) (xs : List Entry) (A : Option Addr) (c : Nat) (key text : ByteArray) (n : Int) (w : World) (hbig : xs.length ≤ 9223372036854775807) (hs : text.size ≤ 9223372036854775807)
    (h : 60 < xs.length ∨ (4096 < text.size ∧ text.size ≤ 65536)) :
    Calls Try.prog 10 #[.agg #[.bool i, .slice A xs.length c], .string key, .string text, .int .u64 n] w fun e w' => e = .returned (.bool true) ∧ Below w.heap.size w w' := by
  have hb0 : Below w.heap.size w (w.alloc (.cells #[.bool i, .slice A xs.length c] 50)) := (Below.refl _ _).alloc (Nat.le_refl _) _
  have HB0 := Lib.hid hb0
  have HS := Lib.hid (small_any i xs A c (w.alloc (.cells #[.bool i, .slice A xs.length c] 50)) hbig)
  by_cases hx : 60 < xs.length
  · rw [if_pos hx] at HS
    clear hb0 h hx
    go_enter Try.func10, Try.ntmps10
    go_wp2_with (fail)
    refine HS.out.mono ?_
    rintro e w1 ⟨rfl, hb1⟩
    have HB1 := Lib.hid (HB0.out.trans (hb1.mono HB0.out.size))
    clear hb1
    go_wp2_with (fail)
    refine (lives09 _).mono ?_
    rintro e w2 ⟨rfl, hb2⟩
    have HB2 := Lib.hid (HB1.out.trans (hb2.mono HB1.out.size))
    clear hb2
    go_wp2_with (fail)
    go_ret
    exact ⟨rfl, HB2.out⟩
  · rw [if_neg hx] at HS
    have h1 : (4096 : Int) < (text.size : Int) := by omega
    have h2 : (text.size : Int) ≤ 65536 := by omega
    clear hb0 h hx
    go_enter Try.func10, Try.ntmps10
    go_wp2_with (fail)
    refine HS.out.mono ?_
    rintro e w1 ⟨rfl, hb1⟩
    have HB1 := Lib.hid (HB0.out.trans (hb1.mono HB0.out.size))
    clear hb1
    go_wp2_with (fail)
    refine (lives09 _).mono ?_
    rintro e w2 ⟨rfl, hb2⟩
    have HB2 := Lib.hid (HB1.out.trans (hb2.mono HB1.out.size))
    clear hb2
    go_wp2_with (fail)
    go_ret
    exact ⟨rfl, HB2.out⟩

set_option maxHeartbeats 8000000 in
set_option maxRecDepth 100000 in
theorem keyedTells_main (i : Bool) (xs : List Entry) (A : Option Addr) (c : Nat) (key text : ByteArray) (n : Int) (w : World) (hT : Tab w A xs) (hx : xs.length ≤ 60) (hc : xs.length ≤ c) (hk : key.size ≤ 9223372036854775807) (hs : text.size ≤ 9223372036854775807)
    (h : ¬ (4096 < text.size ∧ text.size ≤ 65536)) (hn : 0 ≤ n ∧ n ≤ 18446744073709551615) :
    Calls Try.prog 10 #[.agg #[.bool i, .slice A xs.length c], .string key, .string text, .int .u64 n] w fun e w' => e = .returned (.bool true) ∧ Below w.heap.size w w' := by
  have hb0 : Below w.heap.size w (w.alloc (.cells #[.bool i, .slice A xs.length c] 50)) := (Below.refl _ _).alloc (Nat.le_refl _) _
  have hbig : xs.length ≤ 9223372036854775807 := by omega
  have HB0 := Lib.hid hb0
  have HS := Lib.hid (small_any i xs A c (w.alloc (.cells #[.bool i, .slice A xs.length c] 50)) hbig)
  rw [if_neg (by omega)] at HS
  obtain ⟨v, hv⟩ := chk_v xs
  obtain ⟨u, hu⟩ := ap_v xs
  have HV := Lib.hid hv
  have HU := Lib.hid hu
  have B0 : Blk (w.alloc (.cells #[.bool i, .slice A xs.length c] 50)) w.heap.size 50 #[.bool i, .slice A xs.length c] := Blk.new w _ _
  have h1 : (decide (4096 < (text.size : Int)) = false) ∨ (decide (4096 < (text.size : Int)) = true ∧ decide ((text.size : Int) ≤ 65536) = false) := by
    by_cases h4 : 4096 < text.size
    · right; simp; omega
    · left; simp; omega
  have HT0 := Lib.hid (hT.below hb0)
  clear hb0 hv hu h hT
  have HTL := Lib.hid (fun (W : World) (h : Tab W A xs) => of_hash i xs A c key text W h hbig hk hs)
  have HTR := Lib.hid (fun (W : World) (h : Tab W A xs) => rof_hash i xs A c key text W h hbig hk hs)
  have HPL := Lib.hid (fun (W : World) (h : Tab W A xs) => put_any i xs A c key text n W h hbig hk hs hn)
  have HPR := Lib.hid (fun (W : World) (h : Tab W A xs) => rput_any i xs A c key text n W h hbig hk hs hn)
  have HCL := Lib.hid (fun (W : World) (h : Tab W A xs) => check_is HV.out i A c W h hbig)
  have HCR := Lib.hid (fun (W : World) (h : Tab W A xs) => rcheck_is HV.out i A c W h hbig hc)
  have HAL := Lib.hid (fun (W : World) (h : Tab W A xs) => apart_is HU.out i A c W h hbig)
  have HAR := Lib.hid (fun (W : World) (h : Tab W A xs) => rapart_is HU.out i A c W h hbig hc)
  have HKL := Lib.hid (fun (W : World) (h : Tab W A xs) => known_any i xs A c key text W h hbig)
  have HKR := Lib.hid (fun (W : World) (h : Tab W A xs) => rknown_any i xs A c key text W h hbig)
  unfold PutPost at HPL HPR
  have HY : Hid ((putL xs key text n).length ≤ 9223372036854775807) := Lib.hid (by
    have := putL_le xs key text n; omega)
  generalize ofN i xs key text = x at HTL HTR
  generalize sumE key.data.toList text.data.toList = y at HTL HTR
  generalize xs.any (Entry.is key text) = kn at HKL HKR
  generalize putE xs key text = pe at HPL HPR
  generalize putL xs key text n = ys at HPL HPR HY
  generalize decide (pe = 0) = pb at HPL HPR
  clear hx
  have HSM := Lib.hid (fun (A B : Option Addr) (c d : Nat) (W : World) (h : Tab W A ys) (h2 : Tab W B ys) => same_any pb ys A B c d W h h2 HY.out)
  rcases h1 with h1 | ⟨h1, h2⟩
  all_goals
    go_enter Try.func10, Try.ntmps10
    go_wp2_with (fail)
    refine HS.out.mono ?_
    rintro e w1 ⟨rfl, hb1⟩
    have B1 := B0.below hb1 (by simp)
    have HB1 := Lib.hid (HB0.out.trans (hb1.mono HB0.out.size))
    have HT1 := Lib.hid (HT0.out.below hb1)
    have c0 := B1.cell 0
    have c1 := B1.cell 1
    simp at c0 c1
    clear hb1
    go_wp2_with (fail)
    refine (HTL.out _ HT1.out).mono ?_
    rintro e w2 ⟨rfl, hb2⟩
    have B2 := B1.below hb2 B1.lt
    have HB2 := Lib.hid (HB1.out.trans (hb2.mono HB1.out.size))
    have HT2 := Lib.hid (HT1.out.below hb2)
    have c0 := B2.cell 0
    have c1 := B2.cell 1
    simp at c0 c1
    clear hb2
    go_wp2_with (fail)
    refine (HTR.out _ HT2.out).mono ?_
    rintro e w3 ⟨rfl, hb3⟩
    have B3 := B2.below hb3 B2.lt
    have HB3 := Lib.hid (HB2.out.trans (hb3.mono HB2.out.size))
    have HT3 := Lib.hid (HT2.out.below hb3)
    have c0 := B3.cell 0
    have c1 := B3.cell 1
    simp at c0 c1
    clear hb3
    go_wp2_with (fail)
    refine (HPL.out _ HT3.out).mono ?_
    rintro e w4 ⟨A4, c4, rfl, hT4, _, hb4⟩
    have B4 := B3.below hb4 B3.lt
    have HB4 := Lib.hid (HB3.out.trans (hb4.mono HB3.out.size))
    have HT4 := Lib.hid (HT3.out.below hb4)
    have HY4 := Lib.hid hT4
    have c0 := B4.cell 0
    have c1 := B4.cell 1
    have hsz4 := B4.lt
    simp at c0 c1
    clear hb4 hT4
    go_wp2_with (fail)
    have ha5 : Below w4.heap.size w4 (w4.alloc (.cells #[.bool pb, .slice A4 ys.length c4] 50)) := (Below.refl _ _).alloc (Nat.le_refl _) _
    have HA5 := Lib.hid ha5
    clear ha5
    refine (HPR.out _ (HT4.out.below HA5.out)).mono ?_
    rintro e w5 ⟨A5, c5, rfl, hT5, _, hb5⟩
    have hb5' := HA5.out.trans (hb5.mono HA5.out.size)
    have B5 := (B4.below HA5.out B4.lt).below hb5 (by simp; omega)
    have D5 := (Blk.new w4 50 #[.bool pb, .slice A4 ys.length c4]).below hb5 (by simp)
    have HB5 := Lib.hid (HB4.out.trans (hb5'.mono HB4.out.size))
    have HT5 := Lib.hid (HT4.out.below hb5')
    have HY5 := Lib.hid (HY4.out.below hb5')
    have HZ5 := Lib.hid hT5
    have hsz5 := B5.lt
    have hsz6 := D5.lt
    clear hb5 hb5' hT5
    go_wp2_with (fail)
    obtain ⟨V, hV⟩ : ∃ V, w5.alloc (.cells #[.bool pb, .slice A5 ys.length c5] 50) = V := ⟨_, rfl⟩
    have hB7 : Blk V w5.heap.size 50 #[.bool pb, .slice A5 ys.length c5] := by rw [← hV]; exact Blk.new _ _ _
    have hab : Below w5.heap.size w5 V := by rw [← hV]; exact (Below.refl _ _).alloc (Nat.le_refl _) _
    have k0 : V.cell? ⟨w.heap.size, 0, none⟩ = some (.bool i) := (B5.below hab hsz5).cell 0
    have k1 : V.cell? ⟨w.heap.size, 1, none⟩ = some (.slice A xs.length c) := (B5.below hab hsz5).cell 1
    have k2 : V.cell? ⟨w4.heap.size, 0, none⟩ = some (.bool pb) := (D5.below hab hsz6).cell 0
    have k3 : V.cell? ⟨w4.heap.size, 1, none⟩ = some (.slice A4 ys.length c4) := (D5.below hab hsz6).cell 1
    have k4 : V.cell? ⟨w5.heap.size, 0, none⟩ = some (.bool pb) := hB7.cell 0
    have k5 : V.cell? ⟨w5.heap.size, 1, none⟩ = some (.slice A5 ys.length c5) := hB7.cell 1
    have hs0 : w.heap.size < V.heap.size := by have := hab.size; omega
    have hs1 : w4.heap.size < V.heap.size := by have := hab.size; omega
    have hs2 : w5.heap.size < V.heap.size := hB7.lt
    have hTV := HT5.out.below hab
    have hYV := HY5.out.below hab
    have hZV := HZ5.out.below hab
    have HBV := Lib.hid (HB5.out.trans (hab.mono HB5.out.size))
    have JCL := Lib.hid (fun (W : World) (h : Below V.heap.size V W) => HCL.out W (hTV.below h))
    have JCR := Lib.hid (fun (W : World) (h : Below V.heap.size V W) => HCR.out W (hTV.below h))
    have JAL := Lib.hid (fun (W : World) (h : Below V.heap.size V W) => HAL.out W (hTV.below h))
    have JAR := Lib.hid (fun (W : World) (h : Below V.heap.size V W) => HAR.out W (hTV.below h))
    have JKL := Lib.hid (fun (W : World) (h : Below V.heap.size V W) => HKL.out W (hTV.below h))
    have JKR := Lib.hid (fun (W : World) (h : Below V.heap.size V W) => HKR.out W (hTV.below h))
    have JSM := Lib.hid (fun (W : World) (h : Below V.heap.size V W) => HSM.out A4 A5 c4 c5 W (hYV.below h) (hZV.below h))
    have hrefl : Below V.heap.size V V := Below.refl _ _
    rw [hV]
    clear hV hB7 hab B0 B1 B2 B3 B4 B5 D5 hTV hYV hZV hsz4 hsz5 hsz6 c0 c1
    clear HTL HTR HPL HPR HCL HCR HAL HAR HKL HKR HSM HT0 HT1 HT2 HT3 HT4 HT5 HY4 HY5 HZ5 HB0 HB1 HB2 HB3 HB4 HB5 HA5 HV HU HS HY
    go_region_held3 (fun w' => w'.cell? ⟨w.heap.size, 0, none⟩ = some (.bool i) ∧ w'.cell? ⟨w.heap.size, 1, none⟩ = some (.slice A xs.length c) ∧ w'.cell? ⟨w4.heap.size, 0, none⟩ = some (.bool pb) ∧ w'.cell? ⟨w4.heap.size, 1, none⟩ = some (.slice A4 ys.length c4) ∧ w'.cell? ⟨w5.heap.size, 0, none⟩ = some (.bool pb) ∧ w'.cell? ⟨w5.heap.size, 1, none⟩ = some (.slice A5 ys.length c5) ∧ V.heap.size ≤ w'.heap.size ∧ Below V.heap.size V w')
      (first | assumption | exact ⟨k0, k1, k2, k3, k4, k5, Nat.le_refl _, hrefl⟩ | exact keepD (by assumption) | exact keepD ⟨k0, k1, k2, k3, k4, k5, Nat.le_refl _, hrefl⟩ | exact keepC hs0 hs1 hs2 (by assumption) hb | exact keepC hs0 hs1 hs2 (keepD (by assumption)) hb | exact keepC hs0 hs1 hs2 (keepD ⟨k0, k1, k2, k3, k4, k5, Nat.le_refl _, hrefl⟩) hb)
      (first
        | (go_at_call 47; refine (lives09 _).mono ?_; rintro e w' ⟨rfl, hb⟩; have hbs := hb.size)
        | (go_at_call 52; refine (JCL.out _ (last8 (by assumption))).mono ?_; rintro e w' ⟨rfl, hb⟩; have hbs := hb.size)
        | (go_at_call 53; refine (JCR.out _ (last8 (by assumption))).mono ?_; rintro e w' ⟨rfl, hb⟩; have hbs := hb.size)
        | (go_at_call 54; refine (JAL.out _ (last8 (by assumption))).mono ?_; rintro e w' ⟨rfl, hb⟩; have hbs := hb.size)
        | (go_at_call 55; refine (JAR.out _ (last8 (by assumption))).mono ?_; rintro e w' ⟨rfl, hb⟩; have hbs := hb.size)
        | (go_at_call 56; refine (JKL.out _ (last8 (by assumption))).mono ?_; rintro e w' ⟨rfl, hb⟩; have hbs := hb.size)
        | (go_at_call 57; refine (JKR.out _ (last8 (by assumption))).mono ?_; rintro e w' ⟨rfl, hb⟩; have hbs := hb.size)
        | (go_at_call 58; refine (JSM.out _ (last8 (by assumption))).mono ?_; rintro e w' ⟨rfl, hb⟩; have hbs := hb.size))
    all_goals
      go_wp2
      go_ret
      exact ⟨rfl, HBV.out.trans (Below.mono (last8 (by assumption)) HBV.out.size)⟩

theorem keyedTells_law (w : World) (i : Bool) (A : Option Addr) (xs : List Entry) (c : Nat) (key text : ByteArray) (n : Int) (hT : Tab w A xs) (hc : xs.length ≤ c) (hm : c ≤ maxLen) (hk : key.size ≤ maxLen) (hs : text.size ≤ maxLen) (hn : 0 ≤ n ∧ n ≤ 18446744073709551615) :
    Calls Try.prog 10 #[.agg #[.bool i, .slice A xs.length c], .string key, .string text, .int .u64 n] w fun e w' => e = .returned (.bool true) ∧ Below w.heap.size w w' := by
  unfold maxLen at hm hk hs
  by_cases h : 60 < xs.length ∨ (4096 < text.size ∧ text.size ≤ 65536)
  · exact keyedTells_lives i xs A c key text n w (by omega) (by omega) h
  · exact keyedTells_main i xs A c key text n w hT (by omega) hc (by omega) (by omega) (fun h2 => h (.inr h2)) hn
end Go.Proofs.Ythpicdilonlgiaa
