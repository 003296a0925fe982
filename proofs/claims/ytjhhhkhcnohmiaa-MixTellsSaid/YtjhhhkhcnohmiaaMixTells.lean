/- The law MixTells, walked. -/
import Derived.Test.YtjhhhkhcnohmiaaRef41X
namespace Go.Proofs.Ytjhhhkhcnohmiaa
open Go.RowKit

set_option maxRecDepth 100000 in
theorem mixTells_main (s o : ByteArray) (d : Nat) (hs : s.size ≤ 1000) (ho : o.size ≤ 1000) (w : World) (M : ByteArray) (e1 : Int) (n b : Nat) (x : Bool)
    (hM : ∀ W, Calls Try.prog 13 #[.string s, .int .u64 (d : Int)] W fun e w' => e = .returned (.tuple #[.string M, .int .i64 e1]) ∧ Below W.heap.size W w')
    (hrM : ∀ W, Calls Try.prog 14 #[.string s, .int .u64 (d : Int)] W fun e w' => e = .returned (.tuple #[.string M, .int .i64 e1]) ∧ Below W.heap.size W w')
    (hL : ∀ W, Calls Try.prog 15 #[.string s] W fun e w' => e = .returned (.int .i64 (n : Int)) ∧ Below W.heap.size W w')
    (hrL : ∀ W, Calls Try.prog 16 #[.string s] W fun e w' => e = .returned (.int .i64 (n : Int)) ∧ Below W.heap.size W w')
    (hB : ∀ W, Calls Try.prog 17 #[.string s] W fun e w' => e = .returned (.int .u64 (b : Int)) ∧ Below W.heap.size W w')
    (hrB : ∀ W, Calls Try.prog 18 #[.string s] W fun e w' => e = .returned (.int .u64 (b : Int)) ∧ Below W.heap.size W w')
    (hX : ∀ W, Calls Try.prog 19 #[.string s, .string o] W fun e w' => e = .returned (.bool x) ∧ Below W.heap.size W w')
    (hrX : ∀ W, Calls Try.prog 20 #[.string s, .string o] W fun e w' => e = .returned (.bool x) ∧ Below W.heap.size W w') :
    Calls Try.prog 3 #[.string s, .int .u64 (d : Int), .string o] w fun e w' => e = .returned (.bool true) ∧ Below w.heap.size w w' := by
  have h1 : ¬ (1000 : Int) < (s.size : Int) := by omega
  have h2 : ¬ (1000 : Int) < (o.size : Int) := by omega
  have HM := Lib.hid hM
  have HrM := Lib.hid hrM
  have HL := Lib.hid hL
  have HrL := Lib.hid hrL
  have HB := Lib.hid hB
  have HrB := Lib.hid hrB
  have HX := Lib.hid hX
  have HrX := Lib.hid hrX
  have hxx : (x == x) = true := beq_self_eq_true x
  clear hM hrM hL hrL hB hrB hX hrX hs ho
  go_enter Try.func3, Try.ntmps3
  go_wp2_with (fail)
  with_reducible refine (HM.out _).mono ?_
  rintro e w1 ⟨rfl, hb⟩
  have B1 := Lib.hid hb
  clear hb
  go_wp2_with (fail)
  with_reducible refine (HrM.out _).mono ?_
  rintro e w2 ⟨rfl, hb⟩
  have B2 := Lib.hid (B1.out.trans (hb.mono B1.out.size))
  clear hb
  go_wp2_with (fail)
  with_reducible refine (lives41 _).mono ?_
  rintro e w3 ⟨rfl, hb⟩
  have B3 := Lib.hid (B2.out.trans (hb.mono B2.out.size))
  clear hb
  go_wp2_with (fail)
  with_reducible refine (HL.out _).mono ?_
  rintro e w4 ⟨rfl, hb⟩
  have B4 := Lib.hid (B3.out.trans (hb.mono B3.out.size))
  clear hb
  go_wp2_with (fail)
  with_reducible refine (HrL.out _).mono ?_
  rintro e w5 ⟨rfl, hb⟩
  have B5 := Lib.hid (B4.out.trans (hb.mono B4.out.size))
  clear hb
  go_wp2_with (fail)
  with_reducible refine (HB.out _).mono ?_
  rintro e w6 ⟨rfl, hb⟩
  have B6 := Lib.hid (B5.out.trans (hb.mono B5.out.size))
  clear hb
  go_wp2_with (fail)
  with_reducible refine (HrB.out _).mono ?_
  rintro e w7 ⟨rfl, hb⟩
  have B7 := Lib.hid (B6.out.trans (hb.mono B6.out.size))
  clear hb
  go_wp2_with (fail)
  with_reducible refine (HX.out _).mono ?_
  rintro e w8 ⟨rfl, hb⟩
  have B8 := Lib.hid (B7.out.trans (hb.mono B7.out.size))
  clear hb
  go_wp2_with (fail)
  with_reducible refine (HrX.out _).mono ?_
  rintro e w9 ⟨rfl, hb⟩
  have B9 := Lib.hid (B8.out.trans (hb.mono B8.out.size))
  clear hb
  go_wp2_with (fail)
  go_ret
  exact ⟨rfl, B9.out⟩

set_option maxRecDepth 100000 in
theorem mixTells_out (s o : ByteArray) (d : Nat) (hs : s.size ≤ maxLen) (ho : o.size ≤ maxLen) (h : 1000 < s.size ∨ (s.size ≤ 1000 ∧ 1000 < o.size)) (w : World) :
    Calls Try.prog 3 #[.string s, .int .u64 (d : Int), .string o] w fun e w' => e = .returned (.bool true) ∧ Below w.heap.size w w' := by
  unfold maxLen at hs ho
  have hsI : (s.size : Int) ≤ 9223372036854775807 := by omega
  have hoI : (o.size : Int) ≤ 9223372036854775807 := by omega
  have hT : (1000 : Int) < (s.size : Int) ∨ (¬ (1000 : Int) < (s.size : Int) ∧ (1000 : Int) < (o.size : Int)) := by omega
  clear h hs ho
  rcases hT with h1 | ⟨h1, h2⟩
  all_goals
    go_enter Try.func3, Try.ntmps3
    go_wp2_with (fail)
    with_reducible refine (lives41 _).mono ?_
    rintro e w1 ⟨rfl, hb⟩
    go_wp2_with (fail)
    go_ret
    exact ⟨rfl, hb⟩

theorem mixTells_law (s : ByteArray) (x : Int) (o : ByteArray) (hs : s.size ≤ maxLen) (hx : 0 ≤ x ∧ x ≤ 18446744073709551615) (ho : o.size ≤ maxLen) (w : World) :
    Calls Try.prog 3 #[.string s, .int .u64 x, .string o] w fun e w' => e = .returned (.bool true) ∧ Below w.heap.size w w' := by
  obtain ⟨d, rfl⟩ := Int.eq_ofNat_of_zero_le hx.1
  by_cases h1 : 1000 < s.size
  · exact mixTells_out s o d hs ho (.inl h1) w
  by_cases h2 : 1000 < o.size
  · exact mixTells_out s o d hs ho (.inr ⟨by omega, h2⟩) w
  cases hn : isName s.data.toList
  · exact mixTells_main s o d (by omega) (by omega) w _ _ _ _ _ (fun W => mix_no s d hs hn W) (fun W => rMix_no s d hs hn W) (fun W => letters_any s hs W) (fun W => rLetters_any s hs W) (fun W => bits_any s hs W) (fun W => rBits_any s hs W) (fun W => Exact_any s o hs W) (fun W => rExact_any s o hs ho W)
  · exact mixTells_main s o d (by omega) (by omega) w _ _ _ _ _ (fun W => mix_ok s d (by omega) hs hn W) (fun W => rMix_yes s d hs hn W) (fun W => letters_any s hs W) (fun W => rLetters_any s hs W) (fun W => bits_any s hs W) (fun W => rBits_any s hs W) (fun W => Exact_any s o hs W) (fun W => rExact_any s o hs ho W)
end Go.Proofs.Ytjhhhkhcnohmiaa
