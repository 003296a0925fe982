/- The walks of the reference's number, Addr, Least, Texts, Names, Fold (hardtackref04). Conditions: none. -/
import Derived.Test.YtkjefohkhdadaaaRef04C
namespace Go.Proofs.Ytkjefohkhdadaaa
open Go.RowKit Go.Lib

set_option maxRecDepth 100000 in
set_option maxHeartbeats 2000000 in
theorem rTexts4_any (s : ByteArray) (hs : s.size ≤ 1000000) (w : World) : Calls Try.prog 54 #[.string s] w (TextsPost2 s.data.toList w) := by
  have HCK := Lib.hid (rCheck4_any 16 s hs w)
  have hsl : s.data.toList.length = s.size := by simp
  cases hok : okD 16 s.data.toList with
  | false =>
    rw [chk_no hok] at HCK
    have HE := Lib.hid hok
    clear hok hs hsl
    go_enter Try.func54, Try.ntmps54
    go_wp2_with (fail)
    with_reducible refine HCK.out.mono ?_
    rintro e w1 ⟨rfl, hb⟩
    have HB := Lib.hid hb
    clear hb
    go_wp2_with (fail)
    go_ret2
    exact .inl ⟨HE.out, rfl, HB.out⟩
  | true =>
    rw [chk_ok hok] at HCK
    have h4 := okD_txt hok
    have HT := Lib.hid (fun W => rTexts_any s (by omega) W)
    have HE := Lib.hid (And.intro hok h4.2)
    clear hok hs hsl h4
    go_enter Try.func54, Try.ntmps54
    go_wp2_with (fail)
    with_reducible refine HCK.out.mono ?_
    rintro e w1 ⟨rfl, hb⟩
    have HB := Lib.hid hb
    clear hb HCK
    go_wp2_with (fail)
    with_reducible refine (HT.out _).mono ?_
    rintro e w2 hp
    obtain ⟨ts, A, c, hq, rfl, hS, hO, hb⟩ : ∃ ts A c, textsN s.data.toList = some ts ∧ e = .returned (.tuple #[.slice A ts.length c, .bool true]) ∧ Sl w2 1 (.slice A ts.length c) ts.length (strs ts) ∧ (∀ i, (Value.slice A ts.length c).ownBlock = some i → w1.heap.size ≤ i) ∧ Below w1.heap.size w1 w2 := by
      rcases hp with ⟨hq, _⟩ | h
      · obtain ⟨ts, ht⟩ := HE.out.2
        rw [hq] at ht; cases ht
      · exact h
    have HX := Lib.hid (And.intro hq (And.intro hS (And.intro hO hb)))
    clear hp hq hS hO hb HT
    go_wp2_with (fail)
    go_ret2
    exact .inr ⟨ts, A, c, HE.out.1, HX.out.1, rfl, HX.out.2.1, (fun i hi => Nat.le_trans HB.out.size (HX.out.2.2.1 i hi)), HB.out.trans (HX.out.2.2.2.mono HB.out.size)⟩

set_option maxRecDepth 100000 in
set_option maxHeartbeats 2000000 in
theorem rNumber_any (s : ByteArray) (hs : s.size = 4) (w : World) : Calls Try.prog 103 #[.string s] w fun e w' => e = .returned (.int .u32 ((beN s.data.toList : Nat) : Int)) ∧ w' = w := by
  obtain ⟨l, hl⟩ : ∃ l, s.data.toList = l := ⟨_, rfl⟩
  have hll : l.length = s.size := by rw [← hl]; simp
  rw [hl]
  have HL := Lib.hid (And.intro hl (And.intro hll hs))
  have hsI : (s.size : Int) = 4 := by omega
  clear hl hll hs
  go_enter Try.func103, Try.ntmps103
  go_wp2_with (fail)
  go_loopg [3, 4] 4 (fun gg v3 v4 wr => ∃ (k N : Nat), v3 = .int .u32 (N : Int) ∧ v4 = .int .i64 (k : Int) ∧ Aside (gg + k = 4 ∧ N = beN (l.take k)) ∧ Aside (wr = w))
  case atStart => exact ⟨0, 0, rfl, rfl, ⟨rfl, rfl⟩, rfl⟩
  case round =>
    obtain ⟨k, N, rfl, rfl, hg, hwr⟩ := hrel
    by_cases hk : k < 4
    · have hkI : (k : Int) < 4 := by omega
      have hks : k < s.size := by have := HL.out.2.2; omega
      have hbt := byte_get s k hks
      rw [HL.out.1] at hbt
      obtain ⟨c, hc⟩ : ∃ c, (s[k]'hks).toNat = c := ⟨_, rfl⟩
      have hcI : (c : Int) ≤ 255 := by have := (s[k]'hks).toNat_lt; omega
      have hNl : N ≤ 16777215 := by
        have h1 := beN_lt (l.take k)
        rw [← hg.out.2, List.length_take] at h1
        have h2 : (256 : Nat) ^ (min k l.length) ≤ 256 ^ 3 := Nat.pow_le_pow_right (by decide) (by omega)
        have h3 : (256 : Nat) ^ 3 = 16777216 := by decide
        omega
      have hNI : (N : Int) ≤ 16777215 := by omega
      have hst : beN (l.take (k + 1)) = N * 256 + c := by
        rw [List.take_add_one, hbt, Option.toList_some, beN_snoc, ← hg.out.2, hc]
      have HS := Lib.hid (And.intro hst hk)
      clear hbt hNl hst hk
      go_wp2_with (fail)
      go_roundg (4 - (k + 1))
      case measure => have := hg.out.1; have := HS.out.2; omega
      case rel => exact ⟨k + 1, N * 256 + c, by go_num, by go_num, ⟨by have := HS.out.2; omega, HS.out.1.symm⟩, hwr.out⟩
    · have hkI : ¬ (k : Int) < 4 := by omega
      have hN : N = beN l := by rw [hg.out.2, List.take_of_length_le (by have := HL.out; omega)]
      have HN := Lib.hid hN
      clear hN hk
      go_wp2_with (fail)
      go_ret
      exact ⟨by rw [← HN.out]; rfl, hwr.out⟩

set_option maxRecDepth 100000 in
set_option maxHeartbeats 2000000 in
theorem rAddr4_any (s : ByteArray) (hs : s.size ≤ 1000000) (w : World) : Calls Try.prog 50 #[.string s] w fun e w' => e = .returned (.tuple #[.int .u32 (addrN s.data.toList).1, .int .i64 (addrN s.data.toList).2]) ∧ Below w.heap.size w w' := by
  have HCK := Lib.hid (rCheck4_any 1 s hs w)
  unfold addrN
  cases hok : okD 1 s.data.toList with
  | false =>
    rw [chk_no hok] at HCK
    rw [if_neg (by decide)]
    clear hok hs
    go_enter Try.func50, Try.ntmps50
    go_wp2_with (fail)
    with_reducible refine HCK.out.mono ?_
    rintro e w1 ⟨rfl, hb⟩
    have HB := Lib.hid hb
    clear hb
    go_wp2_with (fail)
    go_ret2
    exact ⟨rfl, HB.out⟩
  | true =>
    rw [chk_ok hok] at HCK
    rw [if_pos rfl]
    have h4 := okD_len4 hok
    have hsl : s.data.toList.length = s.size := by simp
    have HN := Lib.hid (fun W => rNumber_any s (by omega) W)
    clear hok hs h4 hsl
    go_enter Try.func50, Try.ntmps50
    go_wp2_with (fail)
    with_reducible refine HCK.out.mono ?_
    rintro e w1 ⟨rfl, hb⟩
    have HB := Lib.hid hb
    clear hb HCK
    go_wp2_with (fail)
    with_reducible refine (HN.out _).mono ?_
    rintro e w2 ⟨rfl, rfl⟩
    clear HN
    go_wp2_with (fail)
    go_ret2
    exact ⟨rfl, HB.out⟩
set_option maxRecDepth 100000 in
set_option maxHeartbeats 2000000 in
theorem rLeast4_any (s : ByteArray) (hs : s.size ≤ 1000000) (w : World) : Calls Try.prog 52 #[.string s] w fun e w' => e = .returned (.tuple #[.int .u32 (leastN s.data.toList).1, .int .i64 (leastN s.data.toList).2]) ∧ Below w.heap.size w w' := by
  have HCK := Lib.hid (rCheck4_any 6 s hs w)
  unfold leastN
  cases hok : okD 6 s.data.toList with
  | false =>
    rw [chk_no hok] at HCK
    rw [if_neg (by decide)]
    clear hok hs
    go_enter Try.func52, Try.ntmps52
    go_wp2_with (fail)
    with_reducible refine HCK.out.mono ?_
    rintro e w1 ⟨rfl, hb⟩
    have HB := Lib.hid hb
    clear hb
    go_wp2_with (fail)
    go_ret2
    exact ⟨rfl, HB.out⟩
  | true =>
    rw [chk_ok hok] at HCK
    rw [if_pos rfl]
    have h4 := okD_soa hok
    have hsl : s.data.toList.length = s.size := by simp
    obtain ⟨_, S, _, hSd, _, hsl2⟩ := split_at s (s.size - 4) (by omega)
    have hcast : ((s.size - 4 : Nat) : Int) = (s.size : Int) - 4 := by omega
    rw [hcast] at hsl2
    have hS4 : S.data.toList.length = 4 := by rw [hSd, List.length_drop]; omega
    have hSs : S.size = 4 := by have : S.data.toList.length = S.size := by simp
                                omega
    rw [hsl, ← hSd]
    have HN := Lib.hid (fun W => rNumber_any S hSs W)
    obtain ⟨N, hN⟩ : ∃ N, beN S.data.toList = N := ⟨_, rfl⟩
    rw [hN] at HN ⊢
    have hsI : (4 : Int) ≤ (s.size : Int) := by omega
    have hsI2 : (s.size : Int) ≤ 4096 := by omega
    clear hok hs h4 hN hsl hSd hcast hS4 hSs
    go_enter Try.func52, Try.ntmps52
    go_wp2_with (fail)
    with_reducible refine HCK.out.mono ?_
    rintro e w1 ⟨rfl, hb⟩
    have HB := Lib.hid hb
    clear hb HCK
    go_wp2_with (fail)
    with_reducible refine (HN.out _).mono ?_
    rintro e w2 ⟨rfl, rfl⟩
    clear HN
    go_wp2_with (fail)
    go_ret2
    exact ⟨rfl, HB.out⟩
end Go.Proofs.Ytkjefohkhdadaaa
