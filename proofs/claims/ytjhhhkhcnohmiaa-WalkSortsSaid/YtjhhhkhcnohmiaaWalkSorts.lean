/- The walk of hardtacklaw02.WalkSorts. -/
import Derived.Test.YtjhhhkhcnohmiaaLives02
import Derived.Test.YtjhhhkhcnohmiaaStableN
import Derived.Test.YtjhhhkhcnohmiaaRefSort
import Derived.Test.YtjhhhkhcnohmiaaRefDeep
namespace Go.Proofs.Ytjhhhkhcnohmiaa
open Go.RowKit Go.Lib

set_option maxRecDepth 100000 in
set_option maxHeartbeats 8000000 in
theorem walkSorts_law (w : World) (n : ByteArray) (A : Option Addr) (xs : List ByteArray) (c : Nat) (hn : n.size ≤ maxLen) (hT : TTab w A (xs.map Value.string)) (hx : ∀ x ∈ xs, x.size ≤ maxLen) (hc : xs.length ≤ c) (hm : c ≤ maxLen) :
    Calls Try.prog 8 #[.string n, .slice A xs.length c] w fun e w' => e = .returned (.bool true) ∧ Below w.heap.size w w' := by
  have HT := Lib.hid (And.intro hT hx)
  have HN := Lib.hid hn
  unfold maxLen at hn hm
  have hnM : (n.size : Int) ≤ 9223372036854775807 := by omega
  have hlM : (xs.length : Int) ≤ 9223372036854775807 := by omega
  have HL := Lib.hid (fun W => lives02 W)
  by_cases h1 : 60 < xs.length
  · have h1I : 60 < (xs.length : Int) := by omega
    clear h1 hT hx hc hm hn
    go_enter Try.func8, Try.ntmps8
    go_wp2_with (fail)
    with_reducible refine (HL.out _).mono ?_
    rintro e w1 ⟨rfl, hb⟩
    go_wp2_with (fail)
    go_ret
    exact ⟨rfl, hb⟩
  have h1I : ¬ 60 < (xs.length : Int) := by omega
  by_cases h2 : 1000 < n.size
  · have h2I : 1000 < (n.size : Int) := by omega
    clear h1 h2 hT hx hc hm hn
    go_enter Try.func8, Try.ntmps8
    go_wp2_with (fail)
    with_reducible refine (HL.out _).mono ?_
    rintro e w1 ⟨rfl, hb⟩
    go_wp2_with (fail)
    go_ret
    exact ⟨rfl, hb⟩
  have h2I : ¬ 1000 < (n.size : Int) := by omega
  have H60 := Lib.hid (show xs.length ≤ 60 by omega)
  clear h1 h2 hT hx hc hm hn
  go_enter Try.func8, Try.ntmps8
  go_wp2_with (fail)
  go_loopg [6, 22] xs.length (fun g _ v22 wr => ∃ k : Nat, v22 = .int .i64 (k : Int) ∧ Aside (g + k = xs.length) ∧ Aside (∀ x ∈ xs.take k, x.size ≤ 1000) ∧ wr = w)
  case atStart => exact ⟨0, rfl, rfl, (show Aside _ from fun x hx => by simp at hx), rfl⟩
  case round =>
    obtain ⟨k, rfl, hg, hk, rfl⟩ := hrel
    by_cases hlt : k < xs.length
    · obtain ⟨b0, o, rfl, hal, hac⟩ := HT.out.1 (by rw [List.length_map]; omega)
      obtain ⟨x, hxk⟩ : ∃ x, xs[k]? = some x := ⟨_, List.getElem?_eq_getElem hlt⟩
      have a0 : wr.cell? ⟨b0, o + k, none⟩ = some (.string x) := hac k _ (by rw [List.getElem?_map, hxk]; rfl)
      have hltI : (k : Int) < (xs.length : Int) := by omega
      have hxs := HT.out.2 x (List.mem_of_getElem? hxk)
      unfold maxLen at hxs
      have hxI : (x.size : Int) ≤ 9223372036854775807 := by omega
      by_cases h3 : 1000 < x.size
      · have h3I : 1000 < (x.size : Int) := by omega
        clear hac hxk hxs h3 hlt
        go_wp2_with (fail)
        with_reducible refine (HL.out _).mono ?_
        rintro e w1 ⟨rfl, hb⟩
        go_wp2_with (fail)
        go_ret
        exact ⟨rfl, hb⟩
      · have h3I : ¬ 1000 < (x.size : Int) := by omega
        have HX := Lib.hid (And.intro hxk (And.intro h3 hlt))
        clear hac hxk hxs h3 hlt
        go_wp2_with (fail)
        go_roundg (xs.length - (k + 1))
        case measure => have := hg.out; have := HX.out.2.2; omega
        case rel =>
          refine ⟨k + 1, by go_num, (by show _ = _; have := hg.out; have := HX.out.2.2; omega), (show Aside _ from fun z hz => ?_), rfl⟩
          obtain ⟨q1, q2⟩ := List.getElem?_eq_some_iff.1 HX.out.1
          rw [List.take_succ_eq_append_getElem q1, q2] at hz
          rcases List.mem_append.1 hz with h | h
          · exact hk.out z h
          · rw [List.mem_singleton.1 h]; have := HX.out.2.1; omega
    · obtain rfl : k = xs.length := by have := hg.out; omega
      have hk1 := hk.out
      rw [List.take_length] at hk1
      have H1 := Lib.hid (fun W (h : TTab W A (xs.map Value.string)) => Deepest_any n xs A c W h HN.out HT.out.2 (by have := H60.out; omega))
      have H2 := Lib.hid (fun W (h : TTab W A (xs.map Value.string)) => rDeepest_any n xs A c W h HN.out HT.out.2 (by have := H60.out; omega))
      obtain ⟨D, hD⟩ : ∃ D : ByteArray, (⟨(deepP n.data.toList (xs.map fun x => x.data.toList)).1.toArray⟩ : ByteArray) = D := ⟨_, rfl⟩
      obtain ⟨d, hd⟩ : ∃ d, (deepP n.data.toList (xs.map fun x => x.data.toList)).2 = d := ⟨_, rfl⟩
      rw [hD, hd] at H1 H2
      have H3 := Lib.hid (fun W (h : TTab W A (xs.map Value.string)) => Sort_any stable_all xs A c W h (fun x hx => by have := hk1 x hx; omega) (by have := H60.out; omega) (by have := H60.out; omega))
      have H4 := Lib.hid (fun W (h : TTab W A (xs.map Value.string)) => rSort_any xs A c W h (fun x hx => by have := hk1 x hx; omega) (by have := H60.out; omega))
      have hsl : (sortN (xs.map fun x => x.data.toList)).length ≤ 60 := by
        unfold sortN
        have e1 := ddF_length ris (sortK ris cmpL ((xs.map fun x => x.data.toList).filter isName)) none
        have e2 := (sortK_spec (key := ris) cmpL_tot ((xs.map fun x => x.data.toList).filter isName)).2.len
        have e3 := List.length_filter_le isName (xs.map fun x => x.data.toList)
        rw [List.length_map] at e3
        have := H60.out
        omega
      generalize sortN (xs.map fun x => x.data.toList) = U at H3 H4 hsl
      have HU := Lib.hid hsl
      have e1 : (D.toList == D.toList) = true := by simp
      have e2 : (d == d) = true := by simp
      clear hlt hk1 hD hd hsl
      go_wp2_with (fail)
      with_reducible refine (H1.out _ HT.out.1).mono ?_
      rintro e w1 ⟨rfl, hb⟩
      have B1 := Lib.hid hb
      clear hb
      go_wp2_with (fail)
      with_reducible refine (H2.out _ (HT.out.1.below B1.out)).mono ?_
      rintro e w2 ⟨rfl, hb⟩
      have B2 := Lib.hid (B1.out.trans (hb.mono B1.out.size))
      clear hb
      go_wp2_with (fail)
      with_reducible refine (HL.out _).mono ?_
      rintro e w3 ⟨rfl, hb⟩
      have B3 := Lib.hid (B2.out.trans (hb.mono B2.out.size))
      clear hb
      go_wp2_with (fail)
      with_reducible refine (H3.out _ (HT.out.1.below B3.out)).mono ?_
      rintro e w4 ⟨A1, c1, rfl, hs1, _, hb⟩
      have B4 := Lib.hid (B3.out.trans (hb.mono B3.out.size))
      have T4 := Lib.hid (sl_tt hs1)
      clear hb hs1
      go_wp2_with (fail)
      with_reducible refine (H4.out _ (HT.out.1.below B4.out)).mono ?_
      rintro e w5 ⟨A2, c2, rfl, hs2, _, hb⟩
      have B5 := Lib.hid (B4.out.trans (hb.mono B4.out.size))
      have hUs : (U.map fun x => (⟨x.toArray⟩ : ByteArray)).map Value.string = strs U := by simp [strs]
      have hUl : (U.map fun x => (⟨x.toArray⟩ : ByteArray)).length = U.length := List.length_map _
      have hst := sameT_any (U.map fun x => (⟨x.toArray⟩ : ByteArray)) A1 A2 c1 c2 w5 (by rw [hUs]; exact T4.out.below hb) (by rw [hUs]; exact sl_tt hs2) (by rw [hUl]; have := HU.out; omega)
      rw [hUl] at hst
      have H12 := Lib.hid hst
      clear hb hs2 hst hUs hUl
      go_wp2_with (fail)
      with_reducible refine (H12.out).mono ?_
      rintro e w6 ⟨rfl, hb⟩
      have B6 := Lib.hid (B5.out.trans (hb.mono B5.out.size))
      clear hb
      go_wp2_with (fail)
      go_ret
      exact ⟨rfl, B6.out⟩
end Go.Proofs.Ytjhhhkhcnohmiaa
