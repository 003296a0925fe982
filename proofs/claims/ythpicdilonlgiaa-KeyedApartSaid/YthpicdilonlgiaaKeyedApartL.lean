/- The law KeyedApart, walked. -/
import Derived.Test.YthpicdilonlgiaaKeyedPutL
namespace Go.Proofs.Ythpicdilonlgiaa
open Go.RowKit Go.Lib

/-! ### Plain -/
theorem ap_found {xs : List Entry} {k s : ByteArray} (h : Ap xs) : (findN (Entry.is k s) xs != 0) = xs.any (Entry.is k s) := by
  rcases idxOf_cases (Entry.is k s) xs with ⟨_, h1, h2⟩ | ⟨p, e, _, hp, h1, _, h2⟩
  · rw [h1, h2]; rfl
  · rw [h1, h2]
    have := (h.2 p e (List.getElem?_eq_some_iff.1 hp).1 hp).1
    simpa using this
theorem is_congr {k s k2 s2 : ByteArray} (h1 : k.toList = k2.toList) (h2 : s.toList = s2.toList) : Entry.is k s = Entry.is k2 s2 := by
  funext e; unfold Entry.is; rw [h1, h2]
theorem ap_one {xs : List Entry} {k s k2 s2 : ByteArray} (h : Ap xs) :
    (findN (Entry.is k s) xs == findN (Entry.is k2 s2) xs) = ((k.toList == k2.toList && s.toList == s2.toList) || (!xs.any (Entry.is k s) && !xs.any (Entry.is k2 s2))) := by
  by_cases hone : k.toList = k2.toList ∧ s.toList = s2.toList
  · rw [is_congr hone.1 hone.2]
    simp [hone.1, hone.2]
  · have h0 : (k.toList == k2.toList && s.toList == s2.toList) = false := by
      rw [Bool.and_eq_false_iff, beq_eq_false_iff_ne, beq_eq_false_iff_ne]
      by_cases h1 : k.toList = k2.toList
      · right; exact fun h2 => hone ⟨h1, h2⟩
      · left; exact h1
    rw [h0, Bool.false_or]
    rcases idxOf_cases (Entry.is k s) xs with ⟨_, h1, h2⟩ | ⟨p, e, _, hp, h1, hie, h2⟩ <;> rcases idxOf_cases (Entry.is k2 s2) xs with ⟨_, g1, g2⟩ | ⟨q, f, _, hq, g1, gie, g2⟩
    · rw [h1, h2, g1, g2]; rfl
    · rw [h1, h2, g1, g2]
      have := (h.2 q f (List.getElem?_eq_some_iff.1 hq).1 hq).1
      simp only [Bool.not_false, Bool.not_true, Bool.and_false, beq_eq_false_iff_ne]
      exact fun h => this h.symm
    · rw [h1, h2, g1, g2]
      have := (h.2 p e (List.getElem?_eq_some_iff.1 hp).1 hp).1
      simp only [Bool.not_true, Bool.false_and, beq_eq_false_iff_ne]
      exact this
    · rw [h1, h2, g1, g2]
      simp only [Bool.not_true, Bool.false_and, beq_eq_false_iff_ne]
      have lp := (List.getElem?_eq_some_iff.1 hp).1
      have lq := (List.getElem?_eq_some_iff.1 hq).1
      rcases Nat.lt_trichotomy p q with hlt | heq | hlt
      · exact (h.2 q f lq hq).2 p e hlt hp
      · subst heq
        rw [hp] at hq
        cases hq
        exfalso
        unfold Entry.is at hie gie
        rw [Bool.and_eq_true, beq_iff_eq, beq_iff_eq] at hie gie
        exact hone ⟨hie.1.symm.trans gie.1, hie.2.symm.trans gie.2⟩
      · exact fun he => (h.2 p e lp hp).2 q f hlt hq he.symm

theorem keepE {V W w' : World} {a g p q : Nat} {x0 x1 y0 y1 z0 z1 : Option Value} (ha : a < V.heap.size) (hg : g < V.heap.size)
    (H : W.cell? ⟨a, 0, none⟩ = x0 ∧ W.cell? ⟨a, 1, none⟩ = x1 ∧ W.cell? ⟨g, p, none⟩ = y0 ∧ W.cell? ⟨g, p + 1, none⟩ = y1 ∧ W.cell? ⟨g, q, none⟩ = z0 ∧ W.cell? ⟨g, q + 1, none⟩ = z1 ∧ V.heap.size ≤ W.heap.size ∧ Below V.heap.size V W) (hw : Below W.heap.size W w') :
    w'.cell? ⟨a, 0, none⟩ = x0 ∧ w'.cell? ⟨a, 1, none⟩ = x1 ∧ w'.cell? ⟨g, p, none⟩ = y0 ∧ w'.cell? ⟨g, p + 1, none⟩ = y1 ∧ w'.cell? ⟨g, q, none⟩ = z0 ∧ w'.cell? ⟨g, q + 1, none⟩ = z1 ∧ V.heap.size ≤ w'.heap.size ∧ Below V.heap.size V w' := by
  obtain ⟨h0, h1, h2, h3, h4, h5, h6, h7⟩ := H
  have ha' : a < W.heap.size := by omega
  have hg' : g < W.heap.size := by omega
  exact ⟨(hw.cell (p := ⟨a, 0, none⟩) ha').trans h0, (hw.cell (p := ⟨a, 1, none⟩) ha').trans h1, (hw.cell (p := ⟨g, p, none⟩) hg').trans h2, (hw.cell (p := ⟨g, p + 1, none⟩) hg').trans h3, (hw.cell (p := ⟨g, q, none⟩) hg').trans h4, (hw.cell (p := ⟨g, q + 1, none⟩) hg').trans h5, Nat.le_trans h6 hw.size, h7.trans (hw.mono h6)⟩
theorem keepF {V W : World} {a g p q : Nat} {x0 x1 y0 y1 z0 z1 : Option Value}
    (H : W.cell? ⟨a, 0, none⟩ = x0 ∧ W.cell? ⟨a, 1, none⟩ = x1 ∧ W.cell? ⟨g, p, none⟩ = y0 ∧ W.cell? ⟨g, p + 1, none⟩ = y1 ∧ W.cell? ⟨g, q, none⟩ = z0 ∧ W.cell? ⟨g, q + 1, none⟩ = z1 ∧ V.heap.size ≤ W.heap.size ∧ Below V.heap.size V W) :
    W.drew.cell? ⟨a, 0, none⟩ = x0 ∧ W.drew.cell? ⟨a, 1, none⟩ = x1 ∧ W.drew.cell? ⟨g, p, none⟩ = y0 ∧ W.drew.cell? ⟨g, p + 1, none⟩ = y1 ∧ W.drew.cell? ⟨g, q, none⟩ = z0 ∧ W.drew.cell? ⟨g, q + 1, none⟩ = z1 ∧ V.heap.size ≤ W.drew.heap.size ∧ Below V.heap.size V W.drew :=
  ⟨H.1, H.2.1, H.2.2.1, H.2.2.2.1, H.2.2.2.2.1, H.2.2.2.2.2.1, H.2.2.2.2.2.2.1, H.2.2.2.2.2.2.2.drew⟩

set_option maxHeartbeats 4000000 in
set_option maxRecDepth 100000 in
theorem keyedApart_out (b : Bool) (xs : List Entry) (A : Option Addr) (c : Nat) (i j : Int) (k s : ByteArray) (w : World) (hT : Tab w A xs) (hbig : xs.length ≤ 9223372036854775807) (h : 60 < xs.length ∨ ¬ Ap xs) :
    Calls Try.prog 12 #[.agg #[.bool b, .slice A xs.length c], .int .i64 i, .int .i64 j, .string k, .string s] w fun e w' => e = .returned (.bool true) ∧ Below w.heap.size w w' := by
  have hb0 : Below w.heap.size w (w.alloc (.cells #[.bool b, .slice A xs.length c] 50)) := (Below.refl _ _).alloc (Nat.le_refl _) _
  have B0 : Blk (w.alloc (.cells #[.bool b, .slice A xs.length c] 50)) w.heap.size 50 #[.bool b, .slice A xs.length c] := Blk.new w _ _
  have HB0 := Lib.hid hb0
  have HT := Lib.hid hT
  have hS := fun W => small_any b xs A c W hbig
  by_cases hx : 60 < xs.length
  · rw [if_pos hx] at hS
    have HS := Lib.hid hS
    clear hS hx h hT hb0
    go_enter Try.func12, Try.ntmps12
    go_wp2_with (fail)
    refine (lives09 _).mono ?_
    rintro e w1 ⟨rfl, hb1⟩
    have B1 := B0.below hb1 B0.lt
    have HB1 := Lib.hid (HB0.out.trans (hb1.mono HB0.out.size))
    have c0 := B1.cell 0
    have c1 := B1.cell 1
    simp at c0 c1
    clear hb1
    go_wp2_with (fail)
    refine (HS.out _).mono ?_
    rintro e w2 ⟨rfl, hb2⟩
    have HB2 := Lib.hid (HB1.out.trans (hb2.mono HB1.out.size))
    clear hb2
    go_wp2_with (fail)
    go_ret
    exact ⟨rfl, HB2.out⟩
  · rw [if_neg hx] at hS
    have HS := Lib.hid hS
    have hap : ApIs xs false := .inr ⟨rfl, by rcases h with h | h; exact absurd h hx; exact h⟩
    have HA := Lib.hid (fun (W : World) (h : Tab W A xs) => apart_is hap b A c W h hbig)
    clear hS hx h hT hb0 hap
    go_enter Try.func12, Try.ntmps12
    go_wp2_with (fail)
    refine (lives09 _).mono ?_
    rintro e w1 ⟨rfl, hb1⟩
    have B1 := B0.below hb1 B0.lt
    have HB1 := Lib.hid (HB0.out.trans (hb1.mono HB0.out.size))
    have c0 := B1.cell 0
    have c1 := B1.cell 1
    simp at c0 c1
    clear hb1
    go_wp2_with (fail)
    refine (HS.out _).mono ?_
    rintro e w2 ⟨rfl, hb2⟩
    have B2 := B1.below hb2 B1.lt
    have HB2 := Lib.hid (HB1.out.trans (hb2.mono HB1.out.size))
    have c0 := B2.cell 0
    have c1 := B2.cell 1
    simp at c0 c1
    clear hb2
    go_wp2_with (fail)
    refine (HA.out _ (HT.out.below HB2.out)).mono ?_
    rintro e w3 ⟨rfl, hb3⟩
    have HB3 := Lib.hid (HB2.out.trans (hb3.mono HB2.out.size))
    clear hb3
    go_wp2_with (fail)
    go_ret
    exact ⟨rfl, HB3.out⟩

set_option maxHeartbeats 8000000 in
set_option maxRecDepth 100000 in
theorem keyedApart_main (b : Bool) (xs : List Entry) (A : Option Addr) (c : Nat) (i j : Int) (key text : ByteArray) (w : World) (hT : Tab w A xs) (hx : xs.length ≤ 60) (hk : key.size ≤ 9223372036854775807) (hs : text.size ≤ 9223372036854775807) (hap : Ap xs) :
    Calls Try.prog 12 #[.agg #[.bool b, .slice A xs.length c], .int .i64 i, .int .i64 j, .string key, .string text] w fun e w' => e = .returned (.bool true) ∧ Below w.heap.size w w' := by
  obtain ⟨i0, hi0, hz0, hz1, hz2⟩ := info_parts info_sum
  have hbig : xs.length ≤ 9223372036854775807 := by omega
  have hb0 : Below w.heap.size w (w.alloc (.cells #[.bool b, .slice A xs.length c] 50)) := (Below.refl _ _).alloc (Nat.le_refl _) _
  have B0 : Blk (w.alloc (.cells #[.bool b, .slice A xs.length c] 50)) w.heap.size 50 #[.bool b, .slice A xs.length c] := Blk.new w _ _
  have HB0 := Lib.hid hb0
  have HT := Lib.hid hT
  have hS := fun W => small_any b xs A c W hbig
  rw [if_neg (by omega)] at hS
  have HS := Lib.hid hS
  have HA := Lib.hid (fun (W : World) (h : Tab W A xs) => apart_is (.inl ⟨rfl, hap⟩ : ApIs xs true) b A c W h hbig)
  have HAP := Lib.hid hap
  clear hS hT hb0 hap
  go_enter Try.func12, Try.ntmps12
  go_wp2_with (fail)
  refine (lives09 _).mono ?_
  rintro e w1 ⟨rfl, hb1⟩
  have B1 := B0.below hb1 B0.lt
  have HB1 := Lib.hid (HB0.out.trans (hb1.mono HB0.out.size))
  have c0 := B1.cell 0
  have c1 := B1.cell 1
  simp at c0 c1
  clear hb1
  go_wp2_with (fail)
  refine (HS.out _).mono ?_
  rintro e w2 ⟨rfl, hb2⟩
  have B2 := B1.below hb2 B1.lt
  have HB2 := Lib.hid (HB1.out.trans (hb2.mono HB1.out.size))
  have c0 := B2.cell 0
  have c1 := B2.cell 1
  simp at c0 c1
  clear hb2
  go_wp2_with (fail)
  refine (HA.out _ (HT.out.below HB2.out)).mono ?_
  rintro e w2' ⟨rfl, hb3⟩
  have B3 := B2.below hb3 B2.lt
  have hb3' := HB2.out.trans (hb3.mono HB2.out.size)
  have c0 := B3.cell 0
  have c1 := B3.cell 1
  have f0 := B3.frozen 0
  simp at c0 c1
  go_upto_region 6 with (fail)
  obtain ⟨w3, hw3⟩ : ∃ w3, w2'.setCell ⟨w.heap.size, 0, none⟩ (.bool true) = w3 := ⟨_, rfl⟩
  have B13 : Blk w3 w.heap.size 50 #[.bool true, .slice A xs.length c] := by rw [← hw3]; exact B3.set_ 0 (.bool true)
  have HB3 : Hid (Below w.heap.size w w3) := Lib.hid (by rw [← hw3]; exact hb3'.setCell (p := ⟨w.heap.size, 0, none⟩) (Nat.le_refl _) (.bool true))
  have HT3 := Lib.hid (HT.out.below HB3.out)
  have c0' := B13.cell 0
  have c1' := B13.cell 1
  simp at c0' c1'
  have hltw : w.heap.size < w3.heap.size := B13.lt
  have HR0 := Lib.hid ((HT3.out.reads).alloc (Nat.le_refl _) (.cells #[] 62))
  have HO0 := Lib.hid (own_empty w3)
  have HH0 := Lib.hid (flat_one xs)
  rw [hw3]
  clear hb3 hb3' hw3 B0 B1 B2 HB0 HB1 HB2 B3 c0 c1 f0
  go_upto_region 7 with (first
    | (at_builtin
       refine wpList_append_any _ rfl (.tmp 30) (.tmp 32) _ rfl w3.heap.size 62 i0 _ 3 40 Try.underlying48 hi0 hz0 hz1 hz2 rfl (by omega) (.slice (some ⟨w3.heap.size, 0, none⟩) 0 0) 0 [] rfl HO0.out w3.heap.size A xs.length c (flat xs) rfl HR0.out HH0.out (by unfold maxLen; omega) (by omega) (by simp) ?_
       intro v w4 hown0 hg0 hat0
       have hown : w4.ownsRow w3.heap.size 62 3 v xs.length (flat xs) := by simpa using hown0
       have B14 := (B13.alloc (.cells #[] 62)).grown hg0 (fun h => by simp [Value.ownBlock] at h; omega)
       have hb4 : Below w3.heap.size w3 w4 := ((Below.refl w3.heap.size w3).alloc (Nat.le_refl _) (.cells #[] 62)).grown hg0 (by simp) (fun k hk => by simp [Value.ownBlock] at hk; omega)
       have hs4 := hb4.size
       have HB4 := Lib.hid (HB3.out.trans (hb4.mono HB3.out.size))
       have hT5 : Tab (w4.alloc (.cells #[.string key, .string text, .int .u64 0] 62)) (some ⟨w4.heap.size, 0, none⟩) [⟨key, text, 0⟩] := tab_new w4 ⟨key, text, 0⟩ ⟨hk, hs, by show (0 : Int) ≤ 0; omega, by show (0 : Int) ≤ _; omega⟩
       have HR := Lib.hid hT5.reads
       have HH := Lib.hid (flat_one [(⟨key, text, 0⟩ : Entry)])
       have HO := Lib.hid (hown.alloc (.cells #[.string key, .string text, .int .u64 0] 62))
       have hb5 : Below w.heap.size w (w4.alloc (.cells #[.string key, .string text, .int .u64 0] 62)) := HB4.out.alloc HB4.out.size _
       have HB5 := Lib.hid hb5
       have HG := Lib.hid (own_ge hown)
       clear hb4 hT5 hown hb5 hg0 hat0 hown0)
    | (at_builtin
       refine wpList_append_any _ rfl (.tmp 33) (.tmp 37) _ rfl w3.heap.size 62 i0 _ 3 40 Try.underlying48 hi0 hz0 hz1 hz2 rfl (by omega) v xs.length (flat xs) rfl HO.out _ (some ⟨w4.heap.size, 0, none⟩) 1 1 (flat [⟨key, text, 0⟩]) rfl HR.out HH.out (by unfold maxLen; omega) (by omega) (by simp; omega) ?_
       intro v1 w5 hown1 hg1 hat1
       obtain ⟨g, cap, rfl, hT6, hcap, hgb⟩ := own_put hown1 HT.out.1 (e := ⟨key, text, 0⟩) ⟨hk, hs, by show (0 : Int) ≤ 0; omega, by show (0 : Int) ≤ _; omega⟩
       have B25 := (B14.alloc (.cells #[.string key, .string text, .int .u64 0] 62)).grown hg1 (fun h => by have := HG.out _ h.symm; omega)
       have HB6 := Lib.hid (HB5.out.grown hg1 HB5.out.size (fun k h => by have := HG.out _ h; omega))
       have HT6 := Lib.hid hT6
       have c0 := B25.cell 0
       have c1 := B25.cell 1
       simp at c0 c1
       clear hown1 hg1 hat1 hT6))
  have hyl : (xs ++ [Entry.mk key text 0]).length = xs.length + 1 := by simp
  have HYL := Lib.hid hyl
  clear hyl
  by_cases hr : (0 ≤ i ∧ i < (xs.length : Int) + 1) ∧ (0 ≤ j ∧ j < (xs.length : Int) + 1)
  · obtain ⟨⟨i1, i2⟩, j1, j2⟩ := hr
    obtain ⟨ni, rfl⟩ := Int.eq_ofNat_of_zero_le i1
    obtain ⟨nj, rfl⟩ := Int.eq_ofNat_of_zero_le j1
    obtain ⟨ei, hei⟩ : ∃ e, (xs ++ [Entry.mk key text 0])[ni]? = some e := ⟨_, List.getElem?_eq_getElem (by have := HYL.out; omega)⟩
    obtain ⟨ej, hej⟩ : ∃ e, (xs ++ [Entry.mk key text 0])[nj]? = some e := ⟨_, List.getElem?_eq_getElem (by have := HYL.out; omega)⟩
    have hoki := HT6.out.1 ei (List.mem_of_getElem? hei)
    have hokj := HT6.out.1 ej (List.mem_of_getElem? hej)
    obtain ⟨g', off, hA, hgl, hcc⟩ := HT6.out.2 (by have := HYL.out; omega)
    obtain ⟨rfl, rfl⟩ : g' = g ∧ off = 0 := by injection hA with hA; injection hA with h1 h2; exact ⟨h1.symm, h2.symm⟩
    have k2 := hcc ni ei hei 0 _ rfl
    have k3 := hcc ni ei hei 1 _ rfl
    have k4 := hcc nj ej hej 0 _ rfl
    have k5 := hcc nj ej hej 1 _ rfl
    simp only [Nat.zero_add, Nat.add_zero] at k2 k3 k4 k5
    have l2 : ni ≤ xs.length := by omega
    have l3 : nj ≤ xs.length := by omega
    have hsi : ei.text.size ≤ 9223372036854775807 := by have := hoki.2.1; unfold maxLen at this; omega
    have hki : ei.key.size ≤ 9223372036854775807 := by have := hoki.1; unfold maxLen at this; omega
    have hsj : ej.text.size ≤ 9223372036854775807 := by have := hokj.2.1; unfold maxLen at this; omega
    have hkj : ej.key.size ≤ 9223372036854775807 := by have := hokj.1; unfold maxLen at this; omega
    have hT5 : Tab w5 A xs := HT.out.below HB6.out
    have JO1 := Lib.hid (fun (W : World) (h : Below w5.heap.size w5 W) => of_hash true xs A c ei.key ei.text W (hT5.below h) hbig hki hsi)
    have JO2 := Lib.hid (fun (W : World) (h : Below w5.heap.size w5 W) => of_hash true xs A c ej.key ej.text W (hT5.below h) hbig hkj hsj)
    have JK1 := Lib.hid (fun (W : World) (h : Below w5.heap.size w5 W) => known_any true xs A c ei.key ei.text W (hT5.below h) hbig)
    have JK2 := Lib.hid (fun (W : World) (h : Below w5.heap.size w5 W) => known_any true xs A c ej.key ej.text W (hT5.below h) hbig)
    have hfin : ∀ y1 y2 : Int, sumE ei.key.data.toList ei.text.data.toList = y1 → sumE ej.key.data.toList ej.text.data.toList = y2 → ((y1 != 0) = true ∨ ((y1 != 0) = false ∧ (y2 != 0) = true)) ∨
        (((y1 != 0) = false ∧ (y2 != 0) = false) ∧ (ofN true xs ei.key ei.text != 0) = xs.any (Entry.is ei.key ei.text) ∧ (ofN true xs ej.key ej.text != 0) = xs.any (Entry.is ej.key ej.text) ∧
          (ofN true xs ei.key ei.text == ofN true xs ej.key ej.text) = ((ei.key.toList == ej.key.toList && ei.text.toList == ej.text.toList) || (!xs.any (Entry.is ei.key ei.text) && !xs.any (Entry.is ej.key ej.text)))) := by
      intro y1 y2 h1 h2
      by_cases e1 : y1 = 0
      · by_cases e2 : y2 = 0
        · right
          have o1 : ofN true xs ei.key ei.text = findN (Entry.is ei.key ei.text) xs := by unfold ofN; rw [if_pos ⟨h1.trans e1, rfl⟩]
          have o2 : ofN true xs ej.key ej.text = findN (Entry.is ej.key ej.text) xs := by unfold ofN; rw [if_pos ⟨h2.trans e2, rfl⟩]
          rw [o1, o2]
          exact ⟨⟨by simpa using e1, by simpa using e2⟩, ap_found HAP.out, ap_found HAP.out, ap_one HAP.out⟩
        · left; right; exact ⟨by simpa using e1, by simpa using e2⟩
      · left; left; simpa using e1
    have hfin2 := hfin _ _ rfl rfl
    generalize ofN true xs ei.key ei.text = x1 at JO1 hfin2
    generalize ofN true xs ej.key ej.text = x2 at JO2 hfin2
    generalize sumE ei.key.data.toList ei.text.data.toList = y1 at JO1 hfin2
    generalize sumE ej.key.data.toList ej.text.data.toList = y2 at JO2 hfin2
    generalize xs.any (Entry.is ei.key ei.text) = u1 at JK1 hfin2
    generalize xs.any (Entry.is ej.key ej.text) = u2 at JK2 hfin2
    have hrefl : Below w5.heap.size w5 w5 := Below.refl _ _
    have hs0 : w.heap.size < w5.heap.size := B25.lt
    have HFin := Lib.hid hfin2
    clear hfin hfin2 hcc hT5 hoki hokj hei hej HT3 HR0 HO0 HH0 HR HH HO HB5 HB4 HB3 HG HS HA HAP
    go_wp2_with (fail)
    go_region_held3 (fun w' => w'.cell? ⟨w.heap.size, 0, none⟩ = some (.bool true) ∧ w'.cell? ⟨w.heap.size, 1, none⟩ = some (.slice A xs.length c) ∧ w'.cell? ⟨g', ni * 3, none⟩ = some (.string ei.key) ∧ w'.cell? ⟨g', ni * 3 + 1, none⟩ = some (.string ei.text) ∧ w'.cell? ⟨g', nj * 3, none⟩ = some (.string ej.key) ∧ w'.cell? ⟨g', nj * 3 + 1, none⟩ = some (.string ej.text) ∧ w5.heap.size ≤ w'.heap.size ∧ Below w5.heap.size w5 w')
      (first | assumption | exact ⟨c0, c1, k2, k3, k4, k5, Nat.le_refl _, hrefl⟩ | exact keepF (by assumption) | exact keepF ⟨c0, c1, k2, k3, k4, k5, Nat.le_refl _, hrefl⟩ | exact keepE hs0 hgl (by assumption) hb | exact keepE hs0 hgl (keepF (by assumption)) hb | exact keepE hs0 hgl (keepF ⟨c0, c1, k2, k3, k4, k5, Nat.le_refl _, hrefl⟩) hb)
      (first
        | (go_at_call 48; refine (JO1.out _ (last8 (by assumption))).mono ?_; rintro e w' ⟨rfl, hb⟩; have hbs := hb.size))
    obtain ⟨w6, rfl⟩ : ∃ w6 : World, w6 = w' := ⟨_, rfl⟩
    clear c0 c1 k2 k3 k4 k5
    obtain ⟨c0, c1, k2, k3, k4, k5, hz6, hb6⟩ : (w6.cell? ⟨w.heap.size, 0, none⟩ = some (.bool true) ∧ w6.cell? ⟨w.heap.size, 1, none⟩ = some (.slice A xs.length c) ∧ w6.cell? ⟨g', ni * 3, none⟩ = some (.string ei.key) ∧ w6.cell? ⟨g', ni * 3 + 1, none⟩ = some (.string ei.text) ∧ w6.cell? ⟨g', nj * 3, none⟩ = some (.string ej.key) ∧ w6.cell? ⟨g', nj * 3 + 1, none⟩ = some (.string ej.text) ∧ w5.heap.size ≤ w6.heap.size ∧ Below w5.heap.size w5 w6) := by assumption
    go_wp2_with (fail)
    go_region_held3 (fun w' => w'.cell? ⟨w.heap.size, 0, none⟩ = some (.bool true) ∧ w'.cell? ⟨w.heap.size, 1, none⟩ = some (.slice A xs.length c) ∧ w'.cell? ⟨g', ni * 3, none⟩ = some (.string ei.key) ∧ w'.cell? ⟨g', ni * 3 + 1, none⟩ = some (.string ei.text) ∧ w'.cell? ⟨g', nj * 3, none⟩ = some (.string ej.key) ∧ w'.cell? ⟨g', nj * 3 + 1, none⟩ = some (.string ej.text) ∧ w5.heap.size ≤ w'.heap.size ∧ Below w5.heap.size w5 w')
      (first | assumption | exact ⟨c0, c1, k2, k3, k4, k5, hz6, hb6⟩ | exact keepF (by assumption) | exact keepF ⟨c0, c1, k2, k3, k4, k5, hz6, hb6⟩ | exact keepE hs0 hgl (by assumption) hb | exact keepE hs0 hgl (keepF (by assumption)) hb | exact keepE hs0 hgl (keepF ⟨c0, c1, k2, k3, k4, k5, hz6, hb6⟩) hb)
      (first
        | (go_at_call 48; refine (JO2.out _ (last8 (by assumption))).mono ?_; rintro e w' ⟨rfl, hb⟩; have hbs := hb.size))
    obtain ⟨w7, rfl⟩ : ∃ w7 : World, w7 = w' := ⟨_, rfl⟩
    clear c0 c1 k2 k3 k4 k5
    obtain ⟨c0, c1, k2, k3, k4, k5, hz6, hb6⟩ : (w7.cell? ⟨w.heap.size, 0, none⟩ = some (.bool true) ∧ w7.cell? ⟨w.heap.size, 1, none⟩ = some (.slice A xs.length c) ∧ w7.cell? ⟨g', ni * 3, none⟩ = some (.string ei.key) ∧ w7.cell? ⟨g', ni * 3 + 1, none⟩ = some (.string ei.text) ∧ w7.cell? ⟨g', nj * 3, none⟩ = some (.string ej.key) ∧ w7.cell? ⟨g', nj * 3 + 1, none⟩ = some (.string ej.text) ∧ w5.heap.size ≤ w7.heap.size ∧ Below w5.heap.size w5 w7) := by assumption
    rcases HFin.out with (g1 | ⟨g1, g2⟩) | ⟨⟨g1, g2⟩, g3, g4, g5⟩
    · go_wp2_with (fail)
      go_ret
      exact ⟨rfl, HB6.out.trans (hb6.mono HB6.out.size)⟩
    · go_wp2_with (fail)
      go_ret
      exact ⟨rfl, HB6.out.trans (hb6.mono HB6.out.size)⟩
    · have HG3 := Lib.hid g3
      have HG4 := Lib.hid g4
      have HG5 := Lib.hid g5
      clear g3 g4 g5
      have hone : ((ei.key.toList == ej.key.toList) = false) ∨ ((ei.key.toList == ej.key.toList) = true ∧ (ei.text.toList == ej.text.toList) = false) ∨ ((ei.key.toList == ej.key.toList) = true ∧ (ei.text.toList == ej.text.toList) = true) := by
        cases (ei.key.toList == ej.key.toList) <;> cases (ei.text.toList == ej.text.toList) <;> simp
      rcases hone with o1 | ⟨o1, o2⟩ | ⟨o1, o2⟩
      all_goals
        rw [o1] at HG5
        try rw [o2] at HG5
        go_wp2_with (fail)
        go_quiet (fail)
        obtain ⟨w8, hw8⟩ : ∃ w8, w7.drewN nq = w8 := ⟨_, rfl⟩
        have hq0 : w8.cell? ⟨w.heap.size, 0, none⟩ = some (.bool true) := by rw [← hw8]; exact c0
        have hq1 : w8.cell? ⟨w.heap.size, 1, none⟩ = some (.slice A xs.length c) := by rw [← hw8]; exact c1
        have hq2 : w8.cell? ⟨g', ni * 3, none⟩ = some (.string ei.key) := by rw [← hw8]; exact k2
        have hq3 : w8.cell? ⟨g', ni * 3 + 1, none⟩ = some (.string ei.text) := by rw [← hw8]; exact k3
        have hq4 : w8.cell? ⟨g', nj * 3, none⟩ = some (.string ej.key) := by rw [← hw8]; exact k4
        have hq5 : w8.cell? ⟨g', nj * 3 + 1, none⟩ = some (.string ej.text) := by rw [← hw8]; exact k5
        have hz8 : w5.heap.size ≤ w8.heap.size := by rw [← hw8]; exact hz6
        have hb8 : Below w5.heap.size w5 w8 := by rw [← hw8]; exact below_drewN hb6 nq
        rw [hw8]
        clear hw8 c0 c1 k2 k3 k4 k5 hz6 hb6
        go_wp2_with (fail)
        go_region_held3 (fun w' => w'.cell? ⟨w.heap.size, 0, none⟩ = some (.bool true) ∧ w'.cell? ⟨w.heap.size, 1, none⟩ = some (.slice A xs.length c) ∧ w'.cell? ⟨g', ni * 3, none⟩ = some (.string ei.key) ∧ w'.cell? ⟨g', ni * 3 + 1, none⟩ = some (.string ei.text) ∧ w'.cell? ⟨g', nj * 3, none⟩ = some (.string ej.key) ∧ w'.cell? ⟨g', nj * 3 + 1, none⟩ = some (.string ej.text) ∧ w5.heap.size ≤ w'.heap.size ∧ Below w5.heap.size w5 w')
          (first | assumption | exact ⟨hq0, hq1, hq2, hq3, hq4, hq5, hz8, hb8⟩ | exact keepF (by assumption) | exact keepF ⟨hq0, hq1, hq2, hq3, hq4, hq5, hz8, hb8⟩ | exact keepE hs0 hgl (by assumption) hb | exact keepE hs0 hgl (keepF (by assumption)) hb | exact keepE hs0 hgl (keepF ⟨hq0, hq1, hq2, hq3, hq4, hq5, hz8, hb8⟩) hb)
          (first
            | (go_at_call_of 56 (Value.string ei.key); refine (JK1.out _ (last8 (by assumption))).mono ?_; rintro e w' ⟨rfl, hb⟩; have hbs := hb.size)
            | (go_at_call_of 56 (Value.string ej.key); refine (JK2.out _ (last8 (by assumption))).mono ?_; rintro e w' ⟨rfl, hb⟩; have hbs := hb.size))
        have hbf : Below w5.heap.size w5 w' := last8 (by assumption)
        have HBF := Lib.hid (HB6.out.trans (hbf.mono HB6.out.size))
        clear hbf
        cases u1 <;> cases u2
        all_goals
          have g3 := HG3.out
          have g4 := HG4.out
          have g5 := HG5.out
          simp only [Bool.not_true, Bool.not_false, Bool.and_true, Bool.and_false, Bool.false_and, Bool.or_false, Bool.or_true] at g5
          go_wp2_with (fail)
          go_ret
          exact ⟨rfl, HBF.out⟩
  · have hcase : decide (i < 0) = true ∨ (decide (i < 0) = false ∧ decide ((xs.length : Int) + 1 ≤ i) = true) ∨
        (decide (i < 0) = false ∧ decide ((xs.length : Int) + 1 ≤ i) = false ∧ decide (j < 0) = true) ∨ (decide (i < 0) = false ∧ decide ((xs.length : Int) + 1 ≤ i) = false ∧ decide (j < 0) = false ∧ decide ((xs.length : Int) + 1 ≤ j) = true) := by
      simp only [decide_eq_true_eq, decide_eq_false_iff_not]; omega
    clear hr HT6 HT3 HR0 HO0 HH0 HR HH HO HB5 HB4 HB3 HG HS HA HAP
    rcases hcase with r1 | ⟨r1, r2⟩ | ⟨r1, r2, r3⟩ | ⟨r1, r2, r3, r4⟩
    all_goals
      go_wp2_with (fail)
      go_ret
      exact ⟨rfl, HB6.out⟩

theorem keyedApart_law (w : World) (b : Bool) (A : Option Addr) (xs : List Entry) (c : Nat) (i j : Int) (key text : ByteArray) (hT : Tab w A xs) (_hc : xs.length ≤ c) (hm : c ≤ maxLen) (_hi : -9223372036854775808 ≤ i ∧ i ≤ 9223372036854775807) (_hj : -9223372036854775808 ≤ j ∧ j ≤ 9223372036854775807) (hk : key.size ≤ maxLen) (hs : text.size ≤ maxLen) :
    Calls Try.prog 12 #[.agg #[.bool b, .slice A xs.length c], .int .i64 i, .int .i64 j, .string key, .string text] w fun e w' => e = .returned (.bool true) ∧ Below w.heap.size w w' := by
  unfold maxLen at hm hk hs
  by_cases h : 60 < xs.length ∨ ¬ Ap xs
  · exact keyedApart_out b xs A c i j key text w hT (by omega) h
  · exact keyedApart_main b xs A c i j key text w hT (by omega) (by omega) (by omega) (Classical.byContradiction fun h2 => h (.inr h2))
end Go.Proofs.Ythpicdilonlgiaa
