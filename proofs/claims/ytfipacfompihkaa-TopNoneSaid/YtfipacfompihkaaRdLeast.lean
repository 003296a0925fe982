/- The walk of package rdata's Least (turned from RdNum, over ReaderS). Conditions: none. -/
import Derived.Test.YtfipacfompihkaaReaderS
import Derived.Test.YtfipacfompihkaaRdCut
namespace Go.Proofs.Ytfipacfompihkaa
open Go.RowKit Go.Lib

def leastN (l : Bs) : Int × Int := if okD 6 l = true then ((beN (l.drop (l.length - 4)) : Int), 0) else (0, 2)
set_option maxRecDepth 100000 in
set_option maxHeartbeats 2000000 in
theorem least_any (s : ByteArray) (hs : s.size ≤ 140737488355328) (w : World) : Calls Try.prog 48 #[.string s] w fun e w' => e = .returned (.tuple #[.int .u32 (leastN s.data.toList).1, .int .i64 (leastN s.data.toList).2]) ∧ Below w.heap.size w w' := by
  have HCK := Lib.hid (rdCheck_any 6 s hs w)
  unfold leastN
  cases hok : okD 6 s.data.toList with
  | false =>
    rw [chk_no hok] at HCK
    rw [if_neg (by decide)]
    clear hok hs
    go_enter Try.func48, Try.ntmps48
    go_wp2_with (fail)
    with_reducible refine HCK.out.mono ?_
    rintro e w1 ⟨rfl, hb⟩
    have HB := Lib.hid hb
    clear hb
    go_wp2_with (fail)
    go_ret2
    exact ⟨rfl, HB.out⟩
  | true =>
    rw [chk_ok hok] at HCK
    rw [if_pos rfl]
    have h4 := okD_soa hok
    have hsl : s.data.toList.length = s.size := by simp
    obtain ⟨_, S, _, hSd, _, hsl2⟩ := split_at s (s.size - 4) (by omega)
    have hcast : ((s.size - 4 : Nat) : Int) = (s.size : Int) - 4 := by omega
    rw [hcast] at hsl2
    have hS4 : S.data.toList.length = 4 := by rw [hSd, List.length_drop]; omega
    have hSs : S.size = 4 := by have : S.data.toList.length = S.size := by simp
                                omega
    have hext : (S.extract 0 (0 + 4)).data.toList = S.data.toList := by
      have := take_byte S 0 4 (by omega)
      rw [List.drop_zero, List.take_of_length_le (by omega)] at this
      exact this
    rw [hsl, ← hSd]
    obtain ⟨N, hN⟩ : ∃ N, beN S.data.toList = N := ⟨_, rfl⟩
    have hNl : N < 4294967296 := by
      have := beN_lt S.data.toList
      rw [hN, hS4] at this
      exact this
    have HNU := Lib.hid (fun (W : World) (b : Nat) (h : Rd W b S 0 false) => rNum_yes h 4 (by omega) (by rw [hSs]; decide) (by omega))
    rw [hext, hN] at HNU
    rw [hN]
    have HO := Lib.hid (fun W => rOpen_any S W)
    have hNI : (N : Int) ≤ 4294967295 := by omega
    have hsI : (4 : Int) ≤ (s.size : Int) := by omega
    have hsI2 : (s.size : Int) ≤ 4096 := by omega
    clear hok hs h4 hext hN hNl hsl hSd hcast hS4 hSs
    go_enter Try.func48, Try.ntmps48
    go_wp2_with (fail)
    with_reducible refine HCK.out.mono ?_
    rintro e w1 ⟨rfl, hb⟩
    have HB := Lib.hid hb
    clear hb HCK
    go_wp2_with (fail)
    with_reducible refine (HO.out _).mono ?_
    rintro e w2 ⟨rfl, hr, hb⟩
    have HX := Lib.hid (And.intro (HNU.out w2 _ hr) (And.intro HB.out.size (HB.out.trans (hb.mono HB.out.size))))
    clear hr hb HO HNU
    go_wp2_with (fail)
    refine HX.out.1.mono ?_
    rintro e w3 ⟨rfl, _, hbt⟩
    have HY := Lib.hid (HX.out.2.2.trans (But.below hbt HX.out.2.1 HX.out.2.2.size))
    clear hbt
    go_wp2_with (fail)
    go_ret2
    exact ⟨rfl, HY.out⟩
end Go.Proofs.Ytfipacfompihkaa
