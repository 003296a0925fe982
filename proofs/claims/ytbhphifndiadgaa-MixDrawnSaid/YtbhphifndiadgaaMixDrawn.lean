/- The law MixDrawn, walked. -/
import Derived.Test.YtbhphifndiadgaaMixBack
import Derived.Test.YtbhphifndiadgaaMixLaw2
namespace Go.Proofs.Ytbhphifndiadgaa
open Go.RowKit

set_option maxHeartbeats 1000000 in
set_option maxRecDepth 100000 in
theorem mixDrawn_no (s : ByteArray) (a b : Nat) (hs : s.size ≤ maxLen) (hn : isName s.data.toList = false) (w : World) :
    Calls Try.prog 5 #[.string s, .int .u64 (a : Int), .int .u64 (b : Int)] w fun e w' => e = .returned (.bool true) ∧ Below w.heap.size w w' := by
  have H1 := Lib.hid (fun W => mix_no s a hs hn W)
  have H2 := Lib.hid (fun W => mix_no s b hs hn W)
  have h3 := fun W => Check_any s hs W
  have e3 : chkN s.data.toList = 2 := by unfold chkN; rw [hn]; simp
  rw [e3] at h3
  have H3 := Lib.hid h3
  clear h3 e3 hn hs
  go_enter Try.func5, Try.ntmps5
  go_wp2_with (fail)
  refine (lives41 _).mono ?_
  rintro e w1 ⟨rfl, hb1⟩
  have B1 := Lib.hid hb1
  clear hb1
  go_wp2_with (fail)
  refine (H1.out _).mono ?_
  rintro e w2 ⟨rfl, hb2⟩
  have B2 := Lib.hid (B1.out.trans (hb2.mono B1.out.size))
  clear hb2
  go_wp2_with (fail)
  refine (H2.out _).mono ?_
  rintro e w3 ⟨rfl, hb3⟩
  have B3 := Lib.hid (B2.out.trans (hb3.mono B2.out.size))
  clear hb3
  go_wp2_with (fail)
  refine (H3.out _).mono ?_
  rintro e w4 ⟨rfl, hb4⟩
  have B4 := Lib.hid (B3.out.trans (hb4.mono B3.out.size))
  clear hb4
  go_wp2_with (fail)
  go_ret
  exact ⟨rfl, B4.out⟩

theorem and_mask (a k : Nat) (ha : a ≤ 18446744073709551615) : bits .and .u64 (a : Int) (maskN k : Int) = ((a &&& maskN k : Nat) : Int) :=
  bits_and_u64_nat a (maskN k) (by omega) (maskN_lt k)

theorem mask_shift {k : Nat} (h : k < 64) : IntKind.u64.wrap (IntKind.u64.wrap ((2 : Int) ^ k) - 1) = ((maskN k : Nat) : Int) := by
  have h1 : (2 : Nat) ^ k < 2 ^ 64 := Nat.pow_lt_pow_right (by decide) h
  have h0 : 0 < (2 : Nat) ^ k := Nat.two_pow_pos _
  have e : ((2 : Int) ^ k) = ((2 ^ k : Nat) : Int) := by rw [Int.natCast_pow]; rfl
  unfold maskN
  rw [show min k 64 = k by omega, e]
  generalize (2 : Nat) ^ k = z at *
  have W := fun x : Int => show IntKind.u64.wrap x = x % 18446744073709551616 by simp [IntKind.wrap, IntKind.signed, IntKind.bits]
  rw [W, W]
  omega
theorem nat_beq (a b : Nat) : ((a == b) == ((a : Int) == (b : Int))) = true := by
  by_cases h : a = b
  · subst h; simp
  · have h2 : ¬ (a : Int) = (b : Int) := by omega
    rw [beq_eq_false_iff_ne.2 h, beq_eq_false_iff_ne.2 h2]
    rfl

set_option maxHeartbeats 1000000 in
set_option maxRecDepth 100000 in
theorem mixDrawn_yes (s : ByteArray) (a b : Nat) (ha : a ≤ 18446744073709551615) (hb : b ≤ 18446744073709551615) (hs : s.size ≤ maxLen) (hn : isName s.data.toList = true) (w : World) :
    Calls Try.prog 5 #[.string s, .int .u64 (a : Int), .int .u64 (b : Int)] w fun e w' => e = .returned (.bool true) ∧ Below w.heap.size w w' := by
  have h255 : s.size ≤ 255 := by have := ((isName_iff _).1 hn).1; simpa using this
  have hsz : ∀ d, (⟨(mixL d s.data.toList).toArray⟩ : ByteArray).size = s.size := by
    intro d
    show (mixL d s.data.toList).toArray.size = s.size
    have : (mixL d s.data.toList).length = s.size := by rw [mixL_length]; simp
    simp only [List.size_toArray, this]
  have hxs : ∀ d, (⟨(mixL d s.data.toList).toArray⟩ : ByteArray).size ≤ maxLen := by intro d; rw [hsz d]; exact hs
  have H1 := Lib.hid (fun W => mix_ok s a ha hs hn W)
  have H2 := Lib.hid (fun W => mix_ok s b hb hs hn W)
  have H3 := Lib.hid (fun W => letters_any s hs W)
  have h4 := fun W => Same_any (⟨(mixL a s.data.toList).toArray⟩ : ByteArray) s (by have := hxs a; unfold maxLen at this; omega) (by unfold maxLen at hs; omega) W
  have e4 : sameB (⟨(mixL a s.data.toList).toArray⟩ : ByteArray).data.toList s.data.toList = true := by
    show sameB (mixL a s.data.toList) s.data.toList = true
    unfold sameB
    rw [mixL_length, mix_name hn, hn, mix_fold hn]
    simp
  rw [e4] at h4
  have h5 := fun W => letters_any (⟨(mixL a s.data.toList).toArray⟩ : ByteArray) (hxs a) W
  have e5 : letL (⟨(mixL a s.data.toList).toArray⟩ : ByteArray).data.toList = letL s.data.toList := mix_letL hn
  rw [e5] at h5
  have h6 := fun W => bits_any (⟨(mixL a s.data.toList).toArray⟩ : ByteArray) (hxs a) W
  have e6 : bitsL (⟨(mixL a s.data.toList).toArray⟩ : ByteArray).data.toList = a &&& maskN (letL s.data.toList).length := mix_bits hn
  rw [e6] at h6
  have h7 := fun W => Exact_any (⟨(mixL a s.data.toList).toArray⟩ : ByteArray) (⟨(mixL b s.data.toList).toArray⟩ : ByteArray) (hxs a) W
  have e7 : (((⟨(mixL a s.data.toList).toArray⟩ : ByteArray).toList == (⟨(mixL b s.data.toList).toArray⟩ : ByteArray).toList) && isName (⟨(mixL a s.data.toList).toArray⟩ : ByteArray).data.toList) = (a &&& maskN (letL s.data.toList).length == b &&& maskN (letL s.data.toList).length) := by
    rw [toList_mk, toList_mk, mix_same hn]
    rw [show isName (⟨(mixL a s.data.toList).toArray⟩ : ByteArray).data.toList = true from mix_name hn, Bool.and_true]
  rw [e7] at h7
  have A1 := and_mask a (letL s.data.toList).length ha
  have A2 := and_mask b (letL s.data.toList).length hb
  generalize mixL a s.data.toList = x at *
  generalize mixL b s.data.toList = y at *
  generalize (letL s.data.toList).length = k at *
  generalize hm1 : a &&& maskN k = m1 at *
  generalize hm2 : b &&& maskN k = m2 at *
  have H4 := Lib.hid h4
  have H5 := Lib.hid h5
  have H6 := Lib.hid h6
  have H7 := Lib.hid h7
  have A1' := Lib.hid A1
  have A2' := Lib.hid A2
  clear h4 h5 h6 h7 e4 e5 e6 e7 hxs hsz A1 A2 hn hs h255 hm1 hm2
  go_enter Try.func5, Try.ntmps5
  go_wp2_with (fail)
  refine (lives41 _).mono ?_
  rintro e w1 ⟨rfl, hb1⟩
  have B1 := Lib.hid hb1
  clear hb1
  go_wp2_with (fail)
  refine (H1.out _).mono ?_
  rintro e w2 ⟨rfl, hb2⟩
  have B2 := Lib.hid (B1.out.trans (hb2.mono B1.out.size))
  clear hb2
  go_wp2_with (fail)
  refine (H2.out _).mono ?_
  rintro e w3 ⟨rfl, hb3⟩
  have B3 := Lib.hid (B2.out.trans (hb3.mono B2.out.size))
  clear hb3
  by_cases h64 : k < 64
  · have h6 : (k : Int) < 64 := by omega
    have h7 : (0 : Int) ≤ (k : Int) := by omega
    rw [← mask_shift h64] at A1' A2'
    clear h64
    go_wp2_with (fail)
    refine (H3.out _).mono ?_
    rintro e w4 ⟨rfl, hb4⟩
    have B4 := Lib.hid (B3.out.trans (hb4.mono B3.out.size))
    clear hb4
    go_wp2_with (fail)
    refine (H4.out _).mono ?_
    rintro e w5 ⟨rfl, hb5⟩
    have B5 := Lib.hid (B4.out.trans (hb5.mono B4.out.size))
    clear hb5
    go_wp2_with (fail)
    refine (H5.out _).mono ?_
    rintro e w6 ⟨rfl, hb6⟩
    have B6 := Lib.hid (B5.out.trans (hb6.mono B5.out.size))
    clear hb6
    go_wp2_with (fail)
    refine (H6.out _).mono ?_
    rintro e w7 ⟨rfl, hb7⟩
    have B7 := Lib.hid (B6.out.trans (hb7.mono B6.out.size))
    clear hb7
    have a1 := A1'.out
    have a2 := A2'.out
    go_wp2_with (fail)
    refine (H7.out _).mono ?_
    rintro e w8 ⟨rfl, hb8⟩
    have B8 := Lib.hid (B7.out.trans (hb8.mono B7.out.size))
    clear hb8
    go_wp2_with (fail)
    go_ret
    exact ⟨ret_b (nat_beq m1 m2), B8.out⟩
  · have h6 : ¬ (k : Int) < 64 := by omega
    have hM : ((maskN k : Nat) : Int) = 18446744073709551615 := by
      unfold maskN
      rw [show min k 64 = 64 by omega]
      rfl
    rw [hM] at A1' A2'
    go_wp2_with (fail)
    refine (H3.out _).mono ?_
    rintro e w4 ⟨rfl, hb4⟩
    have B4 := Lib.hid (B3.out.trans (hb4.mono B3.out.size))
    clear hb4
    go_wp2_with (fail)
    refine (H4.out _).mono ?_
    rintro e w5 ⟨rfl, hb5⟩
    have B5 := Lib.hid (B4.out.trans (hb5.mono B4.out.size))
    clear hb5
    go_wp2_with (fail)
    refine (H5.out _).mono ?_
    rintro e w6 ⟨rfl, hb6⟩
    have B6 := Lib.hid (B5.out.trans (hb6.mono B5.out.size))
    clear hb6
    go_wp2_with (fail)
    refine (H6.out _).mono ?_
    rintro e w7 ⟨rfl, hb7⟩
    have B7 := Lib.hid (B6.out.trans (hb7.mono B6.out.size))
    clear hb7
    have a1 := A1'.out
    have a2 := A2'.out
    go_wp2_with (fail)
    refine (H7.out _).mono ?_
    rintro e w8 ⟨rfl, hb8⟩
    have B8 := Lib.hid (B7.out.trans (hb8.mono B7.out.size))
    clear hb8
    go_wp2_with (fail)
    go_ret
    exact ⟨ret_b (nat_beq m1 m2), B8.out⟩

theorem mixDrawn_law (s : ByteArray) (x y : Int) (hs : s.size ≤ maxLen) (hx : 0 ≤ x ∧ x ≤ 18446744073709551615) (hy : 0 ≤ y ∧ y ≤ 18446744073709551615) (w : World) :
    Calls Try.prog 5 #[.string s, .int .u64 x, .int .u64 y] w fun e w' => e = .returned (.bool true) ∧ Below w.heap.size w w' := by
  obtain ⟨d, rfl⟩ := Int.eq_ofNat_of_zero_le hx.1
  obtain ⟨d2, rfl⟩ := Int.eq_ofNat_of_zero_le hy.1
  cases hn : isName s.data.toList
  · exact mixDrawn_no s d d2 hs hn w
  · exact mixDrawn_yes s d d2 (by omega) (by omega) hs hn w
end Go.Proofs.Ytbhphifndiadgaa
