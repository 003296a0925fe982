/- The walk of hardtackref02's Deepest. -/
import Derived.Test.YtjhhhkhcnohmiaaRefWithin
import Derived.Test.YtjhhhkhcnohmiaaDeepest
namespace Go.Proofs.Ytjhhhkhcnohmiaa
open Go.RowKit Go.Lib

set_option maxRecDepth 100000 in
set_option maxHeartbeats 4000000 in
theorem rDeepest_any (n : ByteArray) (xs : List ByteArray) (A : Option Addr) (c : Nat) (w : World) (hA : TTab w A (xs.map Value.string)) (hn : n.size ≤ maxLen) (hx : ∀ x ∈ xs, x.size ≤ maxLen) (hl : xs.length ≤ 1000000) :
    Calls Try.prog 43 #[.string n, .slice A xs.length c] w fun e w' => e = .returned (.tuple #[.string ⟨(deepP n.data.toList (xs.map fun x => x.data.toList)).1.toArray⟩, .int .i64 (deepP n.data.toList (xs.map fun x => x.data.toList)).2]) ∧ Below w.heap.size w w' := by
  have HC := Lib.hid (fun W => rCheck_any n hn W)
  obtain ⟨r, hr⟩ : ∃ r, deepP n.data.toList (xs.map fun x => x.data.toList) = r := ⟨_, rfl⟩
  rw [hr]
  unfold deepP at hr
  have hlI : (xs.length : Int) ≤ 1000000 := by omega
  rcases chk_cases n.data.toList with ⟨h1, h2⟩ | ⟨h1, h2⟩
  · rw [h2] at HC
    rw [if_pos h1] at hr
    have HR := Lib.hid hr
    have HX := Lib.hid (And.intro hx hn)
    have HA := Lib.hid hA
    clear h1 h2 hr hx hA hn hl
    go_enter Try.func43, Try.ntmps43
    go_wp2_with (fail)
    refine (HC.out _).mono ?_
    rintro e w1 ⟨rfl, hb⟩
    have B1 := Lib.hid hb
    clear hb
    go_wp2_with (fail)
    go_loopg [6, 7, 9, 15] xs.length (fun g v6 v7 _ v15 wr => ∃ (k : Nat) (s : ByteArray) (b : Bool), v15 = .int .i64 (k : Int) ∧ v6 = .string s ∧ v7 = .bool b ∧ Aside (g + k = xs.length) ∧ Aside (s.size ≤ maxLen ∧ ((b = false ∧ s = ⟨#[]⟩ ∧ deepS n.data.toList ((xs.take k).map fun x => x.data.toList) = ([], -1)) ∨ (b = true ∧ deepS n.data.toList ((xs.take k).map fun x => x.data.toList) = (s.data.toList, ((namL s.data.toList).length : Int))))) ∧ Aside (Below w.heap.size w wr))
    case atStart => exact ⟨0, ⟨#[]⟩, false, rfl, rfl, rfl, rfl, ⟨by decide, .inl ⟨rfl, rfl, rfl⟩⟩, B1.out⟩
    case round =>
      obtain ⟨k, s, b, rfl, rfl, rfl, hg, hs, hB⟩ := hrel
      by_cases hlt : k < xs.length
      · obtain ⟨b0, o, rfl, hal, hac⟩ := HA.out (by rw [List.length_map]; omega)
        obtain ⟨x, hxk⟩ : ∃ x, xs[k]? = some x := ⟨_, List.getElem?_eq_getElem hlt⟩
        have a0 : wr.cell? ⟨b0, o + k, none⟩ = some (.string x) := (hB.out.cell (p := ⟨b0, o + k, none⟩) hal).trans (hac k _ (by rw [List.getElem?_map, hxk]; rfl))
        have hltI : (k : Int) < (xs.length : Int) := by omega
        have hxs := HX.out.1 x (List.mem_of_getElem? hxk)
        have HW := Lib.hid (fun W => rWithin_any n x HX.out.2 hxs W)
        have HK := Lib.hid (fun W => rCount_any x hxs W)
        have HM := Lib.hid (fun W => rCount_any s hs.out.1 W)
        have hst : deepS n.data.toList ((xs.take (k + 1)).map fun x => x.data.toList) = deepF n.data.toList (deepS n.data.toList ((xs.take k).map fun x => x.data.toList)) x.data.toList := by
          obtain ⟨q1, q2⟩ := List.getElem?_eq_some_iff.1 hxk
          rw [List.take_succ_eq_append_getElem q1, q2, List.map_append, List.map_singleton, deepS_snoc]
        unfold deepF at hst
        have HXS := Lib.hid (And.intro hxs hlt)
        cases hwi : withinB n.data.toList x.data.toList with
        | false =>
          rw [hwi] at HW
          rw [hwi, if_neg (by simp)] at hst
          have HS := Lib.hid hst
          clear hac hxk hwi hst hxs hlt HK HM
          go_wp2_with (fail)
          refine (HW.out _).mono ?_
          rintro e w2 ⟨rfl, hb⟩
          have B2 := Lib.hid (hB.out.trans (hb.mono hB.out.size))
          clear hb
          go_wp2_with (fail)
          go_roundg (xs.length - (k + 1))
          case measure => have := hg.out; have := HXS.out.2; omega
          case rel => exact ⟨k + 1, s, b, by go_num, rfl, rfl, (by show _ = _; have := hg.out; have := HXS.out.2; omega), (by show _ ∧ _; rw [HS.out]; exact hs.out), B2.out⟩
        | true =>
          rw [hwi] at HW
          rw [hwi, if_pos rfl] at hst
          cases b with
          | false =>
            have hs0 : deepS n.data.toList ((xs.take k).map fun x => x.data.toList) = ([], -1) := by
              rcases hs.out.2 with h | h
              · exact h.2.2
              · cases h.1
            rw [hs0, if_pos (by show (-1 : Int) < _; omega)] at hst
            have HS := Lib.hid hst
            clear hac hxk hwi hst hxs hlt HK HM hs0
            go_wp2_with (fail)
            refine (HW.out _).mono ?_
            rintro e w2 ⟨rfl, hb⟩
            have B2 := Lib.hid (hB.out.trans (hb.mono hB.out.size))
            clear hb
            go_wp2_with (fail)
            go_roundg (xs.length - (k + 1))
            case measure => have := hg.out; have := HXS.out.2; omega
            case rel => exact ⟨k + 1, x, true, by go_num, rfl, rfl, (by show _ = _; have := hg.out; have := HXS.out.2; omega), ⟨HXS.out.1, .inr ⟨rfl, HS.out⟩⟩, B2.out⟩
          | true =>
            have hs0 : deepS n.data.toList ((xs.take k).map fun x => x.data.toList) = (s.data.toList, ((namL s.data.toList).length : Int)) := by
              rcases hs.out.2 with h | h
              · cases h.1
              · exact h.2
            rw [hs0] at hst
            obtain ⟨q, hq⟩ : ∃ q, (namL x.data.toList).length = q := ⟨_, rfl⟩
            obtain ⟨m, hm⟩ : ∃ m, (namL s.data.toList).length = m := ⟨_, rfl⟩
            rw [hq] at HK hst
            rw [hm] at HM hst hs0
            dsimp only at hst
            by_cases hmq : m < q
            · rw [if_pos (by omega)] at hst
              have hmqI : (m : Int) < (q : Int) := by omega
              have HS := Lib.hid (And.intro hst hq)
              clear hac hxk hwi hst hxs hlt hs0 hq hm hmq
              go_wp2_with (fail)
              refine (HW.out _).mono ?_
              rintro e w2 ⟨rfl, hb⟩
              have B2 := Lib.hid (hB.out.trans (hb.mono hB.out.size))
              clear hb
              go_wp2_with (fail)
              refine (HK.out _).mono ?_
              rintro e w3 ⟨rfl, hb⟩
              have B3 := Lib.hid (B2.out.trans (hb.mono B2.out.size))
              clear hb
              go_wp2_with (fail)
              refine (HM.out _).mono ?_
              rintro e w4 ⟨rfl, hb⟩
              have B4 := Lib.hid (B3.out.trans (hb.mono B3.out.size))
              clear hb
              go_wp2_with (fail)
              go_roundg (xs.length - (k + 1))
              case measure => have := hg.out; have := HXS.out.2; omega
              case rel => exact ⟨k + 1, x, true, by go_num, rfl, rfl, (by show _ = _; have := hg.out; have := HXS.out.2; omega), ⟨HXS.out.1, .inr ⟨rfl, by rw [HS.out.1, HS.out.2]⟩⟩, B4.out⟩
            · rw [if_neg (by omega)] at hst
              have hmqI : ¬ (m : Int) < (q : Int) := by omega
              have HS := Lib.hid (And.intro hst hm)
              clear hac hxk hwi hst hxs hlt hs0 hq hm hmq
              go_wp2_with (fail)
              refine (HW.out _).mono ?_
              rintro e w2 ⟨rfl, hb⟩
              have B2 := Lib.hid (hB.out.trans (hb.mono hB.out.size))
              clear hb
              go_wp2_with (fail)
              refine (HK.out _).mono ?_
              rintro e w3 ⟨rfl, hb⟩
              have B3 := Lib.hid (B2.out.trans (hb.mono B2.out.size))
              clear hb
              go_wp2_with (fail)
              refine (HM.out _).mono ?_
              rintro e w4 ⟨rfl, hb⟩
              have B4 := Lib.hid (B3.out.trans (hb.mono B3.out.size))
              clear hb
              go_wp2_with (fail)
              go_roundg (xs.length - (k + 1))
              case measure => have := hg.out; have := HXS.out.2; omega
              case rel => exact ⟨k + 1, s, true, by go_num, rfl, rfl, (by show _ = _; have := hg.out; have := HXS.out.2; omega), ⟨hs.out.1, .inr ⟨rfl, by rw [HS.out.1, HS.out.2]⟩⟩, B4.out⟩
      · obtain rfl : k = xs.length := by have := hg.out; omega
        have hs1 := hs.out.2
        rw [List.take_length] at hs1
        rcases hs1 with ⟨rfl, rfl, h2⟩ | ⟨rfl, h2⟩
        · rw [h2] at HR
          have hr0 : ([], 3) = r := by rw [← HR.out]; rfl
          subst hr0
          clear hlt h2 HR hs
          go_wp2_with (fail)
          go_ret2
          exact ⟨rfl, hB.out⟩
        · rw [h2] at HR
          have hr0 : (s.data.toList, (0 : Int)) = r := by rw [← HR.out, if_neg (by show ¬ ((namL s.data.toList).length : Int) < 0; omega)]
          subst hr0
          clear hlt h2 HR hs
          go_wp2_with (fail)
          go_ret2
          exact ⟨rfl, hB.out⟩
  · rw [h2] at HC
    rw [if_neg (by rw [h1]; simp)] at hr
    subst hr
    clear h1 h2 hx hA hn hl
    go_enter Try.func43, Try.ntmps43
    go_wp2_with (fail)
    refine (HC.out _).mono ?_
    rintro e w1 ⟨rfl, hb⟩
    have B1 := Lib.hid hb
    clear hb
    go_wp2_with (fail)
    go_ret2
    exact ⟨rfl, B1.out⟩
end Go.Proofs.Ytjhhhkhcnohmiaa
