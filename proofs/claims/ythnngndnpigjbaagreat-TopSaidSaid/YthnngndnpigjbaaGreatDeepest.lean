/- The walk of package walk's Deepest. -/
import Derived.Test.YthnngndnpigjbaaGreatUp
import Derived.Test.YthnngndnpigjbaaGreatTTab
import Derived.Test.YthnngndnpigjbaaGreatRef01
import Derived.Deep.LoopGhost
import Derived.Outline
namespace Go.Proofs.YthnngndnpigjbaaGreat
open Go.RowKit Go.Lib

/-- One zone more: the best so far, and how many labels it has. -/
def deepF (n : Bs) (s : Bs × Int) (z : Bs) : Bs × Int := if withinB n z = true then (if s.2 < ((namL z).length : Int) then (z, ((namL z).length : Int)) else s) else s
def deepS (n : Bs) (l : List Bs) : Bs × Int := l.foldl (deepF n) ([], -1)
def deepP (n : Bs) (l : List Bs) : Bs × Int := if isName n = true then (if (deepS n l).2 < 0 then ([], 3) else ((deepS n l).1, 0)) else ([], 2)
theorem deepS_snoc (n : Bs) (l : List Bs) (z : Bs) : deepS n (l ++ [z]) = deepF n (deepS n l) z := by simp [deepS]
theorem deepS_bd (n : Bs) (l : List Bs) : -1 ≤ (deepS n l).2 ∧ (deepS n l).2 ≤ 255 := by
  suffices h : ∀ (l : List Bs) (s : Bs × Int), (-1 ≤ s.2 ∧ s.2 ≤ 255) → -1 ≤ (l.foldl (deepF n) s).2 ∧ (l.foldl (deepF n) s).2 ≤ 255 from h l _ ⟨by decide, by decide⟩
  intro l
  induction l with
  | nil => intro s h; exact h
  | cons z l ih =>
    intro s h
    refine ih _ ?_
    unfold deepF
    split
    · split
      · refine ⟨by omega, ?_⟩
        have h1 : (namL z).length ≤ 255 := by
          by_cases hz : isName z = true
          · rw [namL_yes hz]
            have := ((isName_iff _).1 hz).1
            have := labs_length_le z
            omega
          · rw [namL_no (by simpa using hz)]; simp
        show ((namL z).length : Int) ≤ 255
        omega
      · exact h
    · exact h

set_option maxRecDepth 100000 in
set_option maxHeartbeats 2000000 in
theorem Deepest_any (n : ByteArray) (xs : List ByteArray) (A : Option Addr) (c : Nat) (w : World) (hA : TTab w A (xs.map Value.string)) (hn : n.size ≤ maxLen) (hx : ∀ x ∈ xs, x.size ≤ maxLen) (hl : xs.length ≤ 1000000) :
    Calls Tryz.prog 46 #[.string n, .slice A xs.length c] w fun e w' => e = .returned (.tuple #[.string ⟨(deepP n.data.toList (xs.map fun x => x.data.toList)).1.toArray⟩, .int .i64 (deepP n.data.toList (xs.map fun x => x.data.toList)).2]) ∧ Below w.heap.size w w' := by
  have HC := Lib.hid (fun W => Check_any n hn W)
  obtain ⟨r, hr⟩ : ∃ r, deepP n.data.toList (xs.map fun x => x.data.toList) = r := ⟨_, rfl⟩
  rw [hr]
  unfold deepP at hr
  have hlI : (xs.length : Int) ≤ 1000000 := by omega
  rcases chk_cases n.data.toList with ⟨h1, h2⟩ | ⟨h1, h2⟩
  · rw [h2] at HC
    rw [if_pos h1] at hr
    have HR := Lib.hid hr
    have HX := Lib.hid hx
    have HA := Lib.hid hA
    clear h1 h2 hr hx hA
    go_enter Tryz.func46, Tryz.ntmps46
    go_wp2_with (fail)
    refine (HC.out _).mono ?_
    rintro e w1 ⟨rfl, hb⟩
    have B1 := Lib.hid hb
    clear hb
    go_wp2_with (fail)
    go_loopg [6, 7, 9, 10, 16] xs.length (fun g v6 v7 _ _ v16 wr => ∃ k : Nat, g + k = xs.length ∧ v16 = .int .i64 (k : Int) ∧ (∃ s : ByteArray, v6 = .string s ∧ ∃ m : Int, v7 = .int .i64 m ∧ (s.data.toList, m) = deepS n.data.toList ((xs.take k).map fun x => x.data.toList)) ∧ Aside (Below w.heap.size w wr))
    case atStart => exact ⟨0, by omega, rfl, ⟨⟨#[]⟩, rfl, -1, rfl, rfl⟩, B1.out⟩
    case round =>
      obtain ⟨k, hg, rfl, ⟨s, rfl, m, rfl, hs⟩, hbw⟩ := hrel
      have hbd := deepS_bd n.data.toList ((xs.take k).map fun x => x.data.toList)
      rw [← hs] at hbd
      by_cases hlt : k < xs.length
      · obtain ⟨b0, o, rfl, hal, hac⟩ := HA.out (by rw [List.length_map]; omega)
        obtain ⟨x, hxk⟩ : ∃ x, xs[k]? = some x := ⟨_, List.getElem?_eq_getElem hlt⟩
        have a0 : wr.cell? ⟨b0, o + k, none⟩ = some (.string x) := (hbw.out.cell (p := ⟨b0, o + k, none⟩) hal).trans (hac k _ (by rw [List.getElem?_map, hxk]; rfl))
        have hltI : (k : Int) < (xs.length : Int) := by omega
        have hxm : x ∈ xs := List.mem_of_getElem? hxk
        have HW := Lib.hid (fun W => Within_any n x hn (HX.out x hxm) W)
        have HK := Lib.hid (fun W => Count_any x (HX.out x hxm) W)
        have hst : deepS n.data.toList ((xs.take (k + 1)).map fun x => x.data.toList) = deepF n.data.toList (s.data.toList, m) x.data.toList := by
          obtain ⟨q1, q2⟩ := List.getElem?_eq_some_iff.1 hxk
          rw [List.take_succ_eq_append_getElem q1, q2, List.map_append, List.map_singleton, deepS_snoc, hs]
        unfold deepF at hst
        have hm1 : -1 ≤ m := hbd.1
        have hm2 : m ≤ 255 := hbd.2
        obtain ⟨q, hq⟩ : ∃ q, (namL x.data.toList).length = q := ⟨_, rfl⟩
        cases hwi : withinB n.data.toList x.data.toList with
        | false =>
          rw [hwi] at HW
          rw [hwi, if_neg (by simp)] at hst
          have HS := Lib.hid hst
          clear hac hxk hxm hwi hst hs hbd hq HK
          go_wp2_with (fail)
          refine (HW.out _).mono ?_
          rintro e w2 ⟨rfl, hb⟩
          have B2 := Lib.hid (hbw.out.trans (hb.mono hbw.out.size))
          clear hb
          go_wp2_with (fail)
          go_roundg (xs.length - (k + 1))
          case measure => omega
          case rel => exact ⟨k + 1, by omega, by go_num, ⟨s, rfl, m, rfl, HS.out.symm⟩, B2.out⟩
        | true =>
          rw [hwi] at HW
          rw [hwi, if_pos rfl, hq] at hst
          rw [hq] at HK
          have hq2 : (q : Int) ≤ 9223372036854775807 := by
            have h1 := namL_length_le x.data.toList
            have h2 := HX.out x hxm
            unfold maxLen at h2
            simp at h1
            omega
          by_cases hmq : m < (q : Int)
          · rw [if_pos hmq] at hst
            have HS := Lib.hid hst
            clear hac hxk hxm hwi hst hs hbd hq
            go_wp2_with (fail)
            refine (HW.out _).mono ?_
            rintro e w2 ⟨rfl, hb⟩
            have B2 := Lib.hid (hbw.out.trans (hb.mono hbw.out.size))
            clear hb
            go_wp2_with (fail)
            refine (HK.out _).mono ?_
            rintro e w3 ⟨rfl, hb⟩
            have B3 := Lib.hid (B2.out.trans (hb.mono B2.out.size))
            clear hb
            go_wp2_with (fail)
            go_roundg (xs.length - (k + 1))
            case measure => omega
            case rel => exact ⟨k + 1, by omega, by go_num, ⟨x, rfl, _, rfl, HS.out.symm⟩, B3.out⟩
          · rw [if_neg hmq] at hst
            have HS := Lib.hid hst
            clear hac hxk hxm hwi hst hs hbd hq
            go_wp2_with (fail)
            refine (HW.out _).mono ?_
            rintro e w2 ⟨rfl, hb⟩
            have B2 := Lib.hid (hbw.out.trans (hb.mono hbw.out.size))
            clear hb
            go_wp2_with (fail)
            refine (HK.out _).mono ?_
            rintro e w3 ⟨rfl, hb⟩
            have B3 := Lib.hid (B2.out.trans (hb.mono B2.out.size))
            clear hb
            go_wp2_with (fail)
            go_roundg (xs.length - (k + 1))
            case measure => omega
            case rel => exact ⟨k + 1, by omega, by go_num, ⟨s, rfl, m, rfl, HS.out.symm⟩, B3.out⟩
      · obtain rfl : k = xs.length := by omega
        rw [List.take_length] at hs
        have hr := HR.out
        rw [← hs] at hr
        have hltI : ¬ (xs.length : Int) < (xs.length : Int) := by omega
        have hm1 : -1 ≤ m := hbd.1
        have hm2 : m ≤ 255 := hbd.2
        by_cases hm0 : m < 0
        · rw [if_pos hm0] at hr
          have HRR := Lib.hid hr
          clear hs hr hbd
          go_wp2_with (fail)
          go_ret2
          rw [← HRR.out]
          exact ⟨rfl, hbw.out⟩
        · rw [if_neg hm0] at hr
          have HRR := Lib.hid hr
          clear hs hr hbd
          go_wp2_with (fail)
          go_ret2
          rw [← HRR.out]
          exact ⟨rfl, hbw.out⟩
  · rw [h2] at HC
    rw [if_neg (by rw [h1]; simp)] at hr
    subst hr
    clear h1 h2 hA hx
    go_enter Tryz.func46, Tryz.ntmps46
    go_wp2_with (fail)
    refine (HC.out _).mono ?_
    rintro e w1 ⟨rfl, hb⟩
    have B1 := Lib.hid hb
    clear hb
    go_wp2_with (fail)
    go_ret2
    exact ⟨rfl, B1.out⟩
end Go.Proofs.YthnngndnpigjbaaGreat
