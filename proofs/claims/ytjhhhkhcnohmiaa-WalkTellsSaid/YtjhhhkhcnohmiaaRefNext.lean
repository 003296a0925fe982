/- The walk of hardtackref02's Next. -/
import Derived.Test.YtjhhhkhcnohmiaaRef02
namespace Go.Proofs.Ytjhhhkhcnohmiaa
open Go.RowKit Go.Lib

set_option maxRecDepth 100000 in
set_option maxHeartbeats 2000000 in
theorem rNext_any (z a : ByteArray) (ha : a.size ≤ maxLen) (hz : z.size ≤ maxLen) (w : World) :
    Calls Try.prog 35 #[.string z, .string a] w fun e w' => e = .returned (.tuple #[.string ⟨(nextP z.data.toList a.data.toList).1.toArray⟩, .int .i64 (nextP z.data.toList a.data.toList).2]) ∧ Below w.heap.size w w' := by
  have HZ := Lib.hid (fun W => rCheck_any z hz W)
  have HA := Lib.hid (fun W => rCheck_any a ha W)
  unfold nextP
  rcases chk_cases z.data.toList with ⟨hz1, hz2⟩ | ⟨hz1, hz2⟩
  · rw [hz2] at HZ
    rcases chk_cases a.data.toList with ⟨ha1, ha2⟩ | ⟨ha1, ha2⟩
    · rw [ha2] at HA
      rw [hz1, ha1, if_pos (by rfl)]
      have HD := Lib.hid (fun W => rDepth_any a z ha hz W)
      have HU := Lib.hid (fun W => rUp_any a ha W)
      have hdl := depth_le a.data.toList z.data.toList ha1
      have hul := ups_length ha1
      have hua := ups_yes ha1
      have h255 := labs_length_le a.data.toList
      have h256 := ((isName_iff _).1 ha1).1
      obtain ⟨U, hU⟩ : ∃ U, upsL a.data.toList = U := ⟨_, rfl⟩
      rw [hU] at HU hul hua
      by_cases hd : depthN a.data.toList z.data.toList < 1
      · rw [if_pos hd]
        generalize depthN a.data.toList z.data.toList = d at HD hd
        clear ha1 ha2 hz1 hz2 ha hz hdl hul hua h255 h256 hU
        go_enter Try.func35, Try.ntmps35
        go_wp2_with (fail)
        with_reducible refine (HZ.out _).mono ?_
        rintro e w1 ⟨rfl, hb⟩
        have B1 := Lib.hid hb
        clear hb
        go_wp2_with (fail)
        with_reducible refine (HA.out _).mono ?_
        rintro e w2 ⟨rfl, hb⟩
        have B2 := Lib.hid (B1.out.trans (hb.mono B1.out.size))
        clear hb
        go_wp2_with (fail)
        with_reducible refine (HD.out _).mono ?_
        rintro e w3 ⟨rfl, hb⟩
        have B3 := Lib.hid (B2.out.trans (hb.mono B2.out.size))
        clear hb
        go_wp2_with (fail)
        go_ret2
        exact ⟨rfl, B3.out⟩
      · rw [if_neg hd]
        obtain ⟨q, hq⟩ : ∃ q : Nat, depthN a.data.toList z.data.toList = (q : Int) + 1 := ⟨(depthN a.data.toList z.data.toList).toNat - 1, by omega⟩
        rw [hq] at HD hdl hd
        have hqU : q < U.length := by omega
        have hqI : (q : Int) < (U.length : Int) := by omega
        have hq300 : (q : Int) ≤ 300 := by omega
        have hUI : (U.length : Int) ≤ 300 := by omega
        have hx : U[q]? = some (a.data.toList.drop (pos (labs a.data.toList).1 q)) := by
          have hq2 : q < (labs a.data.toList).1.length + 1 := by omega
          rw [hua, List.getElem?_map, List.getElem?_range hq2]
          rfl
        rw [hq, show ((q : Int) + 1).toNat - 1 = q by omega]
        obtain ⟨X, hX⟩ : ∃ X : ByteArray, (⟨(a.data.toList.drop (pos (labs a.data.toList).1 q)).toArray⟩ : ByteArray) = X := ⟨_, rfl⟩
        have hxX := strs_get hx
        dsimp only
        rw [hX] at hxX ⊢
        have HX := Lib.hid (And.intro hxX hqU)
        clear ha1 ha2 hz1 hz2 ha hz hdl hul hua h255 h256 hU hx hxX hX hq hqU hd
        go_enter Try.func35, Try.ntmps35
        go_wp2_with (fail)
        with_reducible refine (HZ.out _).mono ?_
        rintro e w1 ⟨rfl, hb⟩
        have B1 := Lib.hid hb
        clear hb
        go_wp2_with (fail)
        with_reducible refine (HA.out _).mono ?_
        rintro e w2 ⟨rfl, hb⟩
        have B2 := Lib.hid (B1.out.trans (hb.mono B1.out.size))
        clear hb
        go_wp2_with (fail)
        with_reducible refine (HD.out _).mono ?_
        rintro e w3 ⟨rfl, hb⟩
        have B3 := Lib.hid (B2.out.trans (hb.mono B2.out.size))
        clear hb
        go_wp2_with (fail)
        with_reducible refine (HU.out _).mono ?_
        rintro e w4 ⟨A, c, rfl, h1, _, hb⟩
        have B4 := Lib.hid (B3.out.trans (hb.mono B3.out.size))
        obtain ⟨b0, o, rfl, hal, hac⟩ := (sl_tt h1) (by rw [strs_len]; have := HX.out.2; omega)
        have a0 : w4.cell? ⟨b0, o + q, none⟩ = some (.string X) := hac q _ HX.out.1
        clear hb h1 hac
        go_wp2_with (fail)
        go_ret2
        exact ⟨rfl, B4.out⟩
    · rw [ha2] at HA
      rw [hz1, ha1, if_neg (by simp)]
      clear ha1 ha2 hz1 hz2 ha hz
      go_enter Try.func35, Try.ntmps35
      go_wp2_with (fail)
      with_reducible refine (HZ.out _).mono ?_
      rintro e w1 ⟨rfl, hb⟩
      have B1 := Lib.hid hb
      clear hb
      go_wp2_with (fail)
      with_reducible refine (HA.out _).mono ?_
      rintro e w2 ⟨rfl, hb⟩
      have B2 := Lib.hid (B1.out.trans (hb.mono B1.out.size))
      clear hb
      go_wp2_with (fail)
      go_ret2
      exact ⟨rfl, B2.out⟩
  · rw [hz2] at HZ
    rw [hz1, if_neg (by simp)]
    clear hz1 hz2 ha hz
    go_enter Try.func35, Try.ntmps35
    go_wp2_with (fail)
    with_reducible refine (HZ.out _).mono ?_
    rintro e w1 ⟨rfl, hb⟩
    have B1 := Lib.hid hb
    clear hb
    go_wp2_with (fail)
    go_ret2
    exact ⟨rfl, B1.out⟩
end Go.Proofs.Ytjhhhkhcnohmiaa
