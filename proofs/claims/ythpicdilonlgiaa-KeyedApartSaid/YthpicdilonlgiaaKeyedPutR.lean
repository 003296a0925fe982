/- The walk of the reference's Put. -/
import Derived.Test.YthpicdilonlgiaaKeyedPut
namespace Go.Proofs.Ythpicdilonlgiaa
open Go.RowKit Go.Lib

set_option maxHeartbeats 2000000 in
set_option maxRecDepth 100000 in
theorem rput_any (i : Bool) (xs : List Entry) (A : Option Addr) (c : Nat) (key text : ByteArray) (n : Int) (w : World) (hT : Tab w A xs) (hbig : xs.length ≤ 9223372036854775807) (hk : key.size ≤ 9223372036854775807) (hs : text.size ≤ 9223372036854775807) (hn : 0 ≤ n ∧ n ≤ 18446744073709551615) :
    Calls Try.prog 51 #[.agg #[.bool i, .slice A xs.length c], .string key, .string text, .int .u64 n] w (PutPost xs key text n w) := by
  have hb0 : Below w.heap.size w (w.alloc (.cells #[.bool i, .slice A xs.length c] 50)) := (Below.refl _ _).alloc (Nat.le_refl _) _
  obtain ⟨i0, hi0, hz0, hz1, hz2⟩ := info_parts info_sum
  have HS := Lib.hid (fun x y h1 h2 => rsum_x (x := x) (y := y) (key := key) (text := text) h1 h2 hk hs)
  have HT := Lib.hid hT
  have hE : ∀ y, sumE key.data.toList text.data.toList = y → (y ≠ 0 → putE xs key text = y) ∧ (y = 0 → putE xs key text = if xs.any (Entry.is key text) = true then 4 else if 4096 ≤ xs.length then 8 else 0) := by
    rintro _ rfl
    unfold putE
    exact ⟨fun h => if_pos h, fun h => if_neg (fun h2 => h2 h)⟩
  generalize h1 : sumN key.data.toList text.data.toList = x
  generalize h2 : sumE key.data.toList text.data.toList = y
  have HSum := Lib.hid (HS.out x y h1 h2)
  have HE := Lib.hid (hE y h2)
  clear HS h1 h2 hb0 hT hE
  go_enter Try.func51, Try.ntmps51
  go_wp2_with (fail)
  refine (HSum.out _).mono ?_
  rintro e w2 ⟨rfl, hb2⟩
  simp only [World.size_alloc] at hb2
  obtain ⟨B1, B2, hsz2, hbw2⟩ := two_below hb2
  have c0 := B1.cell 0
  have c1 := B1.cell 1
  have z0 := B2.cell 0
  have z1 := B2.cell 1
  have f0 := B2.frozen 0
  have f1 := B2.frozen 1
  simp at c0 c1 z0 z1
  by_cases hy : y = 0
  · have HE2 := Lib.hid (HE.out.2 hy)
    subst hy
    go_wp2_with (fail)
    have hT2 := HT.out.below hbw2
    have hKn : ∀ b, xs.any (Entry.is key text) = b → Calls Try.prog 57 #[.agg #[.bool i, .slice A xs.length c], .string key, .string text] w2 fun e w' => e = .returned (.bool b) ∧ Below w2.heap.size w2 w' := by
      rintro _ rfl
      exact rknown_any i xs A c key text w2 hT2 hbig
    have HB2 := Lib.hid hbw2
    clear hb2 hT2 HE HSum hbw2
    cases hany : xs.any (Entry.is key text) with
    | true =>
      have HK := Lib.hid (hKn true hany)
      have HP : Hid (putE xs key text = 4) := Lib.hid (by rw [HE2.out, if_pos hany])
      clear hKn hany
      go_wp2_with (fail)
      refine HK.out.mono ?_
      rintro e w3 ⟨rfl, hb3⟩
      have B13 := B1.below hb3 (by omega)
      have B23 := B2.below hb3 (by omega)
      have c0 := B13.cell 0
      have c1 := B13.cell 1
      have z0 := B23.cell 0
      have z1 := B23.cell 1
      have f0 := B23.frozen 0
      have f1 := B23.frozen 1
      simp at c0 c1 z0 z1
      have HB3 := Lib.hid (HB2.out.trans (hb3.mono HB2.out.size))
      clear hb3
      go_wp2_with (fail)
      obtain ⟨q0, q1, q2⟩ := two_set B23 (.bool false) (.slice none 0 0)
      refine bodyPost_ret (v := .tuple #[.agg #[.bool false, .slice none 0 0], .int .i64 4]) (by simp [results, Try.results51, go_sem, q0, q2]) rfl ?_
      exact put_no HP.out (by decide) (two_set_below HB3.out (by omega) _ _)
    | false =>
      have HK := Lib.hid (hKn false hany)
      have HP : Hid (putE xs key text = if 4096 ≤ xs.length then 8 else 0) := Lib.hid (by rw [HE2.out, if_neg (by rw [hany]; simp)])
      clear hKn hany
      go_wp2_with (fail)
      refine HK.out.mono ?_
      rintro e w3 ⟨rfl, hb3⟩
      have B13 := B1.below hb3 (by omega)
      have B23 := B2.below hb3 (by omega)
      have c0 := B13.cell 0
      have c1 := B13.cell 1
      have z0 := B23.cell 0
      have z1 := B23.cell 1
      have f0 := B23.frozen 0
      have f1 := B23.frozen 1
      simp at c0 c1 z0 z1
      have hs3 := hb3.size
      have hb3' := HB2.out.trans (hb3.mono HB2.out.size)
      have HT3 := Lib.hid (HT.out.below hb3')
      have HB3 := Lib.hid hb3'
      clear hb3 hb3'
      by_cases h4 : 4096 ≤ xs.length
      · have h4i : (4096 : Int) ≤ (xs.length : Int) := by omega
        have HP2 : Hid (putE xs key text = 8) := Lib.hid (by rw [HP.out, if_pos h4])
        clear h4
        go_wp2_with (fail)
        obtain ⟨q0, q1, q2⟩ := two_set B23 (.bool false) (.slice none 0 0)
        refine bodyPost_ret (v := .tuple #[.agg #[.bool false, .slice none 0 0], .int .i64 8]) (by simp [results, Try.results51, go_sem, q0, q2]) rfl ?_
        exact put_no HP2.out (by decide) (two_set_below HB3.out (by omega) _ _)
      · have h4i : ¬ (4096 : Int) ≤ (xs.length : Int) := by omega
        have HP2 : Hid (putE xs key text = 0) := Lib.hid (by rw [HP.out, if_neg h4])
        have hx : xs.length ≤ 4096 := by omega
        clear h4
        have hr0 := (HT3.out.reads).alloc (Nat.le_refl _) (.cells #[] 62)
        have HR0 := Lib.hid hr0
        have HO0 := Lib.hid (own_empty w3)
        have HH0 := Lib.hid (flat_one xs)
        clear hr0
        have hltw : w.heap.size < w3.heap.size := by omega
        have hltw1 : w.heap.size + 1 < w3.heap.size := by omega
        go_wp2_with (first
    | (at_builtin
       refine wpList_append_any _ rfl (.tmp 32) (.tmp 34) _ rfl w3.heap.size 62 i0 _ 3 40 Try.underlying48 hi0 hz0 hz1 hz2 rfl (by omega) (.slice (some ⟨w3.heap.size, 0, none⟩) 0 0) 0 [] rfl HO0.out w3.heap.size A xs.length c (flat xs) rfl HR0.out HH0.out (by unfold maxLen; omega) (by omega) (by simp) ?_
       intro v w4 hown0 hg0 hat0
       have hown : w4.ownsRow w3.heap.size 62 3 v xs.length (flat xs) := by simpa using hown0
       have B14 := (B13.alloc (.cells #[] 62)).grown hg0 (fun h => by simp [Value.ownBlock] at h; omega)
       have B24 := (B23.alloc (.cells #[] 62)).grown hg0 (fun h => by simp [Value.ownBlock] at h; omega)
       have c0 := B14.cell 0
       have c1 := B14.cell 1
       have z0 := B24.cell 0
       have z1 := B24.cell 1
       have f0 := B24.frozen 0
       have f1 := B24.frozen 1
       simp at c0 c1 z0 z1
       have hb4 : Below w3.heap.size w3 w4 := ((Below.refl w3.heap.size w3).alloc (Nat.le_refl _) (.cells #[] 62)).grown hg0 (by simp) (fun k hk => by simp [Value.ownBlock] at hk; omega)
       have hs4 := hb4.size
       have HB4 := Lib.hid (HB3.out.trans (hb4.mono HB3.out.size))
       have hT5 : Tab (w4.alloc (.cells #[.string key, .string text, .int .u64 n] 62)) (some ⟨w4.heap.size, 0, none⟩) [⟨key, text, n⟩] := tab_new w4 ⟨key, text, n⟩ ⟨hk, hs, hn.1, hn.2⟩
       have HR := Lib.hid hT5.reads
       have HH := Lib.hid (flat_one [(⟨key, text, n⟩ : Entry)])
       have HO := Lib.hid (hown.alloc (.cells #[.string key, .string text, .int .u64 n] 62))
       have hb5 : Below w.heap.size w (w4.alloc (.cells #[.string key, .string text, .int .u64 n] 62)) := HB4.out.alloc HB4.out.size _
       have HB5 := Lib.hid hb5
       have HG := Lib.hid (own_ge hown)
       have hsz5 : (w4.alloc (.cells #[.string key, .string text, .int .u64 n] 62)).heap.size = w4.heap.size + 1 := World.size_alloc ..
       have HS5 := Lib.hid hsz5
       clear hb4 hT5 hown hb5 hsz5 HT3
       clear hg0 hat0 hown0)
    | (at_builtin; refine wpList_append_any _ rfl (.tmp 35) (.tmp 40) _ rfl w3.heap.size 62 i0 _ 3 40 Try.underlying48 hi0 hz0 hz1 hz2 rfl (by omega) v xs.length (flat xs) rfl HO.out _ (some ⟨w4.heap.size, 0, none⟩) 1 1 (flat [⟨key, text, n⟩]) rfl HR.out HH.out (by unfold maxLen; omega) (by omega) (by simp; omega) ?_; intro v1 w5 hown1 hg1 hat1; obtain ⟨g, cap, rfl, hT6, hcap, hgb⟩ := own_put hown1 HT.out.1 ⟨hk, hs, hn.1, hn.2⟩; have B25 := (B24.alloc (.cells #[.string key, .string text, .int .u64 n] 62)).grown hg1 (fun h => by have := HG.out _ h.symm; omega); have HB6 := Lib.hid (HB5.out.grown hg1 HB5.out.size (fun k h => by have := HG.out _ h; omega)); have z0 := B25.cell 0; have z1 := B25.cell 1; have f0 := B25.frozen 0; have f1 := B25.frozen 1; simp at z0 z1; have HT6 := Lib.hid hT6; clear hown1 hg1 hat1 hT6))
        obtain ⟨q0, q1, q2⟩ := two_set B25 (.bool true) (.slice (some ⟨g, 0, none⟩) (xs.length + 1) cap)
        refine bodyPost_ret (v := .tuple #[.agg #[.bool true, .slice (some ⟨g, 0, none⟩) (xs.length + 1) cap], .int .i64 0]) (by simp [results, Try.results51, go_sem, q0, q2]) rfl ?_
        have hb7 := two_set_below (g := w.heap.size + 1) HB6.out (by omega) (.bool true) (.slice (some ⟨g, 0, none⟩) (xs.length + 1) cap)
        exact put_yes HP2.out ((HT6.out.far (p := ⟨w.heap.size + 1, 0, none⟩) (by show w.heap.size + 1 ≠ g; omega) _).far (p := ⟨w.heap.size + 1, 1, none⟩) (by show w.heap.size + 1 ≠ g; omega) _) hcap hb7
  · have hyi : (y != 0) = true := by simpa using hy
    have HP := Lib.hid (HE.out.1 hy)
    have HY := Lib.hid hy
    clear hy
    go_wp2_with (fail)
    obtain ⟨q0, q1, q2⟩ := two_set B2 (.bool false) (.slice none 0 0)
    refine bodyPost_ret (v := .tuple #[.agg #[.bool false, .slice none 0 0], .int .i64 y]) (by simp [results, Try.results51, go_sem, q0, q2]) rfl ?_
    exact put_no HP.out HY.out (two_set_below hbw2 (by omega) _ _)
end Go.Proofs.Ythpicdilonlgiaa
