/- The law MixBack, walked; hardtacklaw41.lives. -/
import Derived.Test.YtbhphifndiadgaaMixW
import Derived.Test.YtbhphifndiadgaaMixLaw
namespace Go.Proofs.Ytbhphifndiadgaa
open Go.RowKit

theorem mix_ok (s : ByteArray) (d : Nat) (hd : d ≤ 18446744073709551615) (hs : s.size ≤ maxLen) (hn : isName s.data.toList = true) (w : World) :
    Calls Try.prog 20 #[.string s, .int .u64 (d : Int)] w fun e w' => e = .returned (.tuple #[.string ⟨(mixL d s.data.toList).toArray⟩, .int .i64 0]) ∧ Below w.heap.size w w' :=
  callsIn_wide.1 (Mix_in 4 (Nat.le_refl _) s d hd hs hn w)
theorem mix_no (s : ByteArray) (d : Nat) (hs : s.size ≤ maxLen) (hn : isName s.data.toList = false) (w : World) :
    Calls Try.prog 20 #[.string s, .int .u64 (d : Int)] w fun e w' => e = .returned (.tuple #[.string ⟨#[]⟩, .int .i64 2]) ∧ Below w.heap.size w w' :=
  callsIn_wide.1 (Mix_bad 4 (Nat.le_refl _) s d hs hn w)
theorem letters_any (s : ByteArray) (hs : s.size ≤ maxLen) (w : World) :
    Calls Try.prog 22 #[.string s] w fun e w' => e = .returned (.int .i64 ((letL s.data.toList).length : Int)) ∧ Below w.heap.size w w' :=
  callsIn_wide.1 (Letters_in 4 (Nat.le_refl _) s hs w)
theorem bits_any (s : ByteArray) (hs : s.size ≤ maxLen) (w : World) :
    Calls Try.prog 24 #[.string s] w fun e w' => e = .returned (.int .u64 (bitsL s.data.toList : Int)) ∧ Below w.heap.size w w' :=
  callsIn_wide.1 (Bits_in 4 (Nat.le_refl _) s hs w)

def nmA : ByteArray := ⟨#[3, 97, 66, 49, 1, 99, 0]⟩
def nmB : ByteArray := ⟨#[3, 65, 98, 49, 1, 67, 0]⟩
def nmC : ByteArray := ⟨#[3, 97, 98, 49, 1, 99, 0]⟩
def nm0 : ByteArray := ⟨#[]⟩
theorem M1 (w : World) : Calls Try.prog 20 #[.string nmA, .int .u64 5] w fun e w' => e = .returned (.tuple #[.string ⟨#[3, 65, 98, 49, 1, 67, 0]⟩, .int .i64 0]) ∧ Below w.heap.size w w' := by
  have := mix_ok nmA 5 (by omega) (by decide) (by decide) w
  rw [show (mixL 5 nmA.data.toList).toArray = #[3, 65, 98, 49, 1, 67, 0] by decide] at this
  exact this
theorem M2 (w : World) : Calls Try.prog 20 #[.string nm0, .int .u64 1] w fun e w' => e = .returned (.tuple #[.string ⟨#[]⟩, .int .i64 2]) ∧ Below w.heap.size w w' :=
  mix_no nm0 1 (by decide) (by decide) w
theorem M3 (w : World) : Calls Try.prog 22 #[.string nmB] w fun e w' => e = .returned (.int .i64 3) ∧ Below w.heap.size w w' := by
  have := letters_any nmB (by decide) w
  rw [show (letL nmB.data.toList).length = 3 by decide] at this
  exact this
theorem M4 (w : World) : Calls Try.prog 24 #[.string nmB] w fun e w' => e = .returned (.int .u64 5) ∧ Below w.heap.size w w' := by
  have := bits_any nmB (by decide) w
  rw [show bitsL nmB.data.toList = 5 by decide] at this
  exact this
theorem M5 (w : World) : Calls Try.prog 26 #[.string nmB, .string nmB] w fun e w' => e = .returned (.bool true) ∧ Below w.heap.size w w' := by
  have := Exact_any nmB nmB (by decide) w
  rw [show ((nmB.toList == nmB.toList) && isName nmB.data.toList) = true by rw [beq_self_eq_true]; decide] at this
  exact this
theorem M6 (w : World) : Calls Try.prog 26 #[.string nmB, .string nmC] w fun e w' => e = .returned (.bool false) ∧ Below w.heap.size w w' := by
  have := Exact_any nmB nmC (by decide) w
  rw [show ((nmB.toList == nmC.toList) && isName nmB.data.toList) = false by rw [ByteArray.toList_eq, ByteArray.toList_eq]; decide] at this
  exact this
theorem M7 (w : World) : Calls Try.prog 26 #[.string nm0, .string nm0] w fun e w' => e = .returned (.bool false) ∧ Below w.heap.size w w' := by
  have := Exact_any nm0 nm0 (by decide) w
  rw [show ((nm0.toList == nm0.toList) && isName nm0.data.toList) = false by rw [beq_self_eq_true]; decide] at this
  exact this

set_option maxHeartbeats 1000000 in
set_option maxRecDepth 100000 in
theorem lives41 (w : World) : Calls Try.prog 19 #[] w fun e w' => e = .returned (.bool true) ∧ Below w.heap.size w w' := by
  go_enter Try.func19, Try.ntmps19
  go_wp2_with (fail)
  refine (M1 _).mono ?_
  rintro e w1 ⟨rfl, hb1⟩
  go_wp2_with (fail)
  refine (M2 _).mono ?_
  rintro e w2 ⟨rfl, hb2⟩
  have H2 := Lib.hid (hb1.trans (hb2.mono hb1.size))
  clear hb1 hb2
  go_wp2_with (fail)
  refine (M3 _).mono ?_
  rintro e w3 ⟨rfl, hb⟩
  have H3 := Lib.hid (H2.out.trans (hb.mono H2.out.size))
  clear hb H2
  go_wp2_with (fail)
  refine (M4 _).mono ?_
  rintro e w4 ⟨rfl, hb⟩
  have H4 := Lib.hid (H3.out.trans (hb.mono H3.out.size))
  clear hb H3
  go_wp2_with (fail)
  refine (M5 _).mono ?_
  rintro e w5 ⟨rfl, hb⟩
  have H5 := Lib.hid (H4.out.trans (hb.mono H4.out.size))
  clear hb H4
  go_wp2_with (fail)
  refine (M6 _).mono ?_
  rintro e w6 ⟨rfl, hb⟩
  have H6 := Lib.hid (H5.out.trans (hb.mono H5.out.size))
  clear hb H5
  go_wp2_with (fail)
  refine (M7 _).mono ?_
  rintro e w7 ⟨rfl, hb⟩
  have H7 := Lib.hid (H6.out.trans (hb.mono H6.out.size))
  clear hb H6
  go_wp2_with (fail)
  go_ret
  exact ⟨rfl, H7.out⟩

set_option maxHeartbeats 1000000 in
set_option maxRecDepth 100000 in
theorem mixBack_yes (s : ByteArray) (d : Nat) (hd : d ≤ 18446744073709551615) (hs : s.size ≤ maxLen) (hn : isName s.data.toList = true) (w : World) :
    Calls Try.prog 4 #[.string s, .int .u64 (d : Int)] w fun e w' => e = .returned (.bool true) ∧ Below w.heap.size w w' := by
  have h255 : s.size ≤ 255 := by have := ((isName_iff _).1 hn).1; simpa using this
  have H1 := Lib.hid (fun W => mix_ok s d hd hs hn W)
  have hx : ((⟨(mixL d s.data.toList).toArray⟩ : ByteArray)).data.toList = mixL d s.data.toList := rfl
  have hxs : (⟨(mixL d s.data.toList).toArray⟩ : ByteArray).size ≤ maxLen := by
    show (mixL d s.data.toList).toArray.size ≤ maxLen
    have : (mixL d s.data.toList).length = s.size := by rw [mixL_length]; simp
    simp only [List.size_toArray, this]
    unfold maxLen; omega
  have hbl : bitsL s.data.toList ≤ 18446744073709551615 := by have := bitsF_lt s.data.toList (letL s.data.toList); unfold bitsL; omega
  have h2 := fun W => mix_ok (⟨(mixL d s.data.toList).toArray⟩ : ByteArray) (bitsL s.data.toList) hbl hxs (by rw [hx]; exact mix_name hn) W
  rw [mix_mix hn] at h2
  have H3 := Lib.hid (fun W => bits_any s hs W)
  have H4 := Lib.hid (fun W => letters_any s hs W)
  have hE : (letL s.data.toList).length ≤ 64 → ∀ W, Calls Try.prog 26 #[.string ⟨(mixL (bitsL s.data.toList) s.data.toList).toArray⟩, .string s] W fun e w' => e = .returned (.bool true) ∧ Below W.heap.size W w' := by
    intro h64 W
    have e1 : (⟨(mixL (bitsL s.data.toList) s.data.toList).toArray⟩ : ByteArray) = s := by
      rw [mix_back hn h64]
    rw [e1]
    have := Exact_any s s hs W
    rw [beq_self_eq_true, hn] at this
    exact this
  generalize mixL (bitsL s.data.toList) s.data.toList = y at h2 hE
  generalize mixL d s.data.toList = x at H1 h2
  generalize bitsL s.data.toList = bb at h2 H3
  generalize (letL s.data.toList).length = k at H4 hE
  have H2 := Lib.hid h2
  have HE := Lib.hid hE
  clear hx hxs h2 hE hn hbl h255 hs
  go_enter Try.func4, Try.ntmps4
  go_wp2_with (fail)
  refine (lives41 _).mono ?_
  rintro e w1 ⟨rfl, hb1⟩
  have B1 := Lib.hid hb1
  clear hb1
  go_wp2_with (fail)
  refine (H1.out _).mono ?_
  rintro e w2 ⟨rfl, hb2⟩
  have B2 := Lib.hid (B1.out.trans (hb2.mono B1.out.size))
  clear hb2
  go_wp2_with (fail)
  refine (H3.out _).mono ?_
  rintro e w3 ⟨rfl, hb3⟩
  have B3 := Lib.hid (B2.out.trans (hb3.mono B2.out.size))
  clear hb3
  go_wp2_with (fail)
  refine (H2.out _).mono ?_
  rintro e w4 ⟨rfl, hb4⟩
  have B4 := Lib.hid (B3.out.trans (hb4.mono B3.out.size))
  clear hb4
  by_cases h64 : k ≤ 64
  · have h6 : ¬ (64 : Int) < (k : Int) := by omega
    have HE2 := Lib.hid (HE.out h64)
    clear h64
    go_wp2_with (fail)
    refine (H4.out _).mono ?_
    rintro e w5 ⟨rfl, hb5⟩
    have B5 := Lib.hid (B4.out.trans (hb5.mono B4.out.size))
    clear hb5
    go_wp2_with (fail)
    refine (HE2.out _).mono ?_
    rintro e w6 ⟨rfl, hb6⟩
    have B6 := Lib.hid (B5.out.trans (hb6.mono B5.out.size))
    clear hb6
    go_wp2_with (fail)
    go_ret
    exact ⟨rfl, B6.out⟩
  · have h6 : (64 : Int) < (k : Int) := by omega
    clear h64
    go_wp2_with (fail)
    refine (H4.out _).mono ?_
    rintro e w5 ⟨rfl, hb5⟩
    have B5 := Lib.hid (B4.out.trans (hb5.mono B4.out.size))
    clear hb5
    go_wp2_with (fail)
    go_ret
    exact ⟨rfl, B5.out⟩

set_option maxHeartbeats 1000000 in
set_option maxRecDepth 100000 in
theorem mixBack_no (s : ByteArray) (d : Nat) (hs : s.size ≤ maxLen) (hn : isName s.data.toList = false) (w : World) :
    Calls Try.prog 4 #[.string s, .int .u64 (d : Int)] w fun e w' => e = .returned (.bool true) ∧ Below w.heap.size w w' := by
  have H1 := Lib.hid (fun W => mix_no s d hs hn W)
  have H3 := Lib.hid (fun W => bits_any s hs W)
  have h2 := fun (b : Nat) W => mix_no nm0 b (by decide) (by decide) W
  have H2 := Lib.hid (h2 (bitsL s.data.toList))
  generalize bitsL s.data.toList = bb at H2 H3
  clear h2 hn hs
  go_enter Try.func4, Try.ntmps4
  go_wp2_with (fail)
  refine (lives41 _).mono ?_
  rintro e w1 ⟨rfl, hb1⟩
  have B1 := Lib.hid hb1
  clear hb1
  go_wp2_with (fail)
  refine (H1.out _).mono ?_
  rintro e w2 ⟨rfl, hb2⟩
  have B2 := Lib.hid (B1.out.trans (hb2.mono B1.out.size))
  clear hb2
  go_wp2_with (fail)
  refine (H3.out _).mono ?_
  rintro e w3 ⟨rfl, hb3⟩
  have B3 := Lib.hid (B2.out.trans (hb3.mono B2.out.size))
  clear hb3
  go_wp2_with (fail)
  refine (H2.out _).mono ?_
  rintro e w4 ⟨rfl, hb4⟩
  have B4 := Lib.hid (B3.out.trans (hb4.mono B3.out.size))
  clear hb4
  go_wp2_with (fail)
  go_ret
  exact ⟨rfl, B4.out⟩

theorem mixBack_law (s : ByteArray) (x : Int) (hs : s.size ≤ maxLen) (hx : 0 ≤ x ∧ x ≤ 18446744073709551615) (w : World) :
    Calls Try.prog 4 #[.string s, .int .u64 x] w fun e w' => e = .returned (.bool true) ∧ Below w.heap.size w w' := by
  obtain ⟨d, rfl⟩ := Int.eq_ofNat_of_zero_le hx.1
  cases hn : isName s.data.toList
  · exact mixBack_no s d hs hn w
  · exact mixBack_yes s d (by omega) hs hn w
end Go.Proofs.Ytbhphifndiadgaa
