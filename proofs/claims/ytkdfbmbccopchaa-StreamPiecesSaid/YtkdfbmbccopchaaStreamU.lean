/- The walks of stream.Frame, of ref30's Frame and Feed. -/
import Derived.Test.YtkdfbmbccopchaaStreamT
namespace Go.Proofs.Ytkdfbmbccopchaa
open Go.RowKit Go.Lib

theorem bigB_two {n : Nat} (h : n < 65536) : bigB n 2 = hdM n := by
  show [bigI n 6, bigI n 7] = _
  unfold bigI hdM
  simp only [Nat.reduceSub, Nat.reducePow]
  rw [show n / 256 % 256 = n / 256 by omega, show n / 1 % 256 = n % 256 by omega]

set_option maxRecDepth 100000 in
set_option maxHeartbeats 2000000 in
theorem sFrame_any (s : ByteArray) (hs : s.size ≤ maxLen) (w : World) : Calls Try.prog 39 #[.string s] w fun e w' => e = .returned (.tuple #[.string (frameV s).1, .int .i64 (frameV s).2]) ∧ Below w.heap.size w w' := by
  unfold maxLen at hs
  have hsI : (s.size : Int) ≤ 9223372036854775807 := by omega
  by_cases h : 65535 < s.size
  · have hr : frameV s = (⟨#[]⟩, 7) := if_pos h
    have hI : (65535 : Int) < (s.size : Int) := by omega
    rw [hr]
    clear hr h hs
    go_enter Try.func39, Try.ntmps39
    go_wp2_with (fail)
    go_ret2
    exact ⟨rfl, Below.refl _ _⟩
  · have hr : frameV s = (⟨(hdM s.size ++ s.data.toList).toArray⟩, 0) := if_neg h
    have hI : ¬ (65535 : Int) < (s.size : Int) := by omega
    have h6 : (s.size : Int) ≤ 65535 := by omega
    have HS := Lib.hid (show s.size ≤ 65535 by omega)
    rw [hr]
    clear hr h hs
    go_enter Try.func39, Try.ntmps39
    go_wp2_with (fail)
    refine (wNew_any _ _).mono ?_
    rintro e w1 ⟨rfl, hW, hb⟩
    have hs := HS.out
    have H1 := Lib.hid (num_fits 2 (by omega) s.size (by omega) hW (by show (0 : Int) + 2 ≤ _; omega) (by omega))
    have HB := Lib.hid hb
    clear hW hb hs
    go_wp2_with (fail)
    refine H1.out.mono ?_
    rintro e w2 ⟨rfl, hW, hk⟩
    have HB2 := Lib.hid (HB.out.trans (hk.below (fun i hi => hi)))
    have hs := HS.out
    have H4 := Lib.hid (raw_fits s hW (by show ((([] : List UInt8) ++ bigB s.size 2).length + s.size : Int) ≤ _; simp [bigB_length]) (by omega))
    clear hW hk hs H1 HB
    go_wp2_with (fail)
    refine H4.out.mono ?_
    rintro e w5 ⟨rfl, hW, hk⟩
    have HB5 := Lib.hid (HB2.out.trans (hk.below (fun i hi => hi)))
    have H5 := Lib.hid (wOut_any hW)
    clear hW hk H4 HB2
    go_wp2_with (fail)
    refine H5.out.mono ?_
    rintro e w6 ⟨rfl, rfl⟩
    go_wp2_with (fail)
    go_ret2
    refine ⟨?_, HB5.out⟩
    rw [← bigB_two (show s.size < 65536 by have := HS.out; omega)]
    rfl

set_option maxRecDepth 100000 in
set_option maxHeartbeats 2000000 in
theorem rFeed_full (a s : ByteArray) (ha : a.size ≤ 131072) (hs : s.size ≤ maxLen) (h : 131072 < a.size + s.size) (w : World) : Calls Try.prog 45 #[.string a, .string s] w fun e w' => e = .returned (.tuple #[.string a, .slice none 0 0, .int .i64 8]) ∧ w = w' := by
  unfold maxLen at hs
  have hsI : (s.size : Int) ≤ 9223372036854775807 := by omega
  have haI : (a.size : Int) ≤ 131072 := by omega
  have hI : (131072 : Int) < (s.size : Int) ∨ (¬ (131072 : Int) < (s.size : Int) ∧ (131072 : Int) < (a.size : Int) + (s.size : Int)) := by omega
  clear hs ha h
  rcases hI with h1 | ⟨h1, h2⟩
  all_goals
    go_enter Try.func45, Try.ntmps45
    go_wp2_with (fail)
    go_ret3
    exact ⟨rfl, rfl⟩
theorem rFeed_fits (a s : ByteArray) (h : a.size + s.size ≤ 131072) (w : World) : Calls Try.prog 45 #[.string a, .string s] w fun e w' => ∃ A c, e = .returned (.tuple #[.string ⟨((mss (a ++ s).data.toList).2).toArray⟩, .slice A (mss (a ++ s).data.toList).1.length c, .int .i64 0]) ∧ Sl w' 1 (.slice A (mss (a ++ s).data.toList).1.length c) (mss (a ++ s).data.toList).1.length (txtV (mss (a ++ s).data.toList).1) ∧ (∀ g, (Value.slice A (mss (a ++ s).data.toList).1.length c).ownBlock = some g → w.heap.size ≤ g) ∧ Below w.heap.size w w' := by
  have hS := Lib.hid (fun W => rSplit_any (a ++ s) (by rw [ByteArray.size_append]; omega) W)
  have h1 : ¬ (131072 : Int) < (s.size : Int) := by omega
  have h2 : ¬ (131072 : Int) < (a.size : Int) + (s.size : Int) := by omega
  have h3 : (s.size : Int) ≤ 131072 := by omega
  have h4 : (a.size : Int) ≤ 131072 := by omega
  have hcs : a.size + s.size ≤ 9223372036854775807 := by omega
  clear h
  go_enter Try.func45, Try.ntmps45
  go_wp2_with (fail)
  refine (hS.out _).mono ?_
  rintro e w1 ⟨A, c, rfl, h5, h7, h6⟩
  have H := Lib.hid (And.intro h5 (And.intro h7 h6))
  clear h5 h6 h7
  go_wp2_with (fail)
  go_ret3
  exact ⟨A, c, rfl, H.out.1, H.out.2.1, H.out.2.2⟩
end Go.Proofs.Ytkdfbmbccopchaa
