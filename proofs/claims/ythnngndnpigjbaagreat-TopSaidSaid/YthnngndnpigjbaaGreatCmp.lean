/- Lists of texts, as slices: plain. Conditions: none. The walks of cmp.Compare and slices.Compare at texts, of slices.Reverse at texts. -/
import Derived.Test.YthnngndnpigjbaaGreatRef01
import Derived.Test.YthnngndnpigjbaaGreatTTab
import Derived.Test.YthnngndnpigjbaaGreatOrd
import Derived.WalkLawsBesides
import Derived.RegionTactic
import Derived.Outline
namespace Go.Proofs.YthnngndnpigjbaaGreat
open Go.RowKit Go.Shelf

theorem strs_get {xs : List Bs} {k : Nat} {x : Bs} (h : xs[k]? = some x) : (strs xs)[k]? = some (.string ⟨x.toArray⟩) := by simp [strs, h]
theorem strs_len (xs : List Bs) : (strs xs).length = xs.length := by simp [strs]
theorem sl_tt {w : World} {A : Option Addr} {c : Nat} {L : List Bs} (h : Sl w 1 (.slice A L.length c) L.length (strs L)) : TTab w A (strs L) := by
  rw [← strs_len L] at h
  exact ttab_of_sl h
end Go.Proofs.YthnngndnpigjbaaGreat

namespace Go.Proofs.YthnngndnpigjbaaGreat
open Go.RowKit Go.Lib

theorem isNaN_any (s : ByteArray) (w : World) : Calls Tryz.prog 102 #[.string s] w fun e w' => e = .returned (.bool false) ∧ w = w' := by
  have h : (s.toList == s.toList) = true := by simp
  go_enter Tryz.func102, Tryz.ntmps102
  go_wp2
  go_ret
  exact ⟨rfl, rfl⟩

set_option maxRecDepth 100000 in
theorem compareS_any (x y : ByteArray) (w : World) : Calls Tryz.prog 87 #[.string x, .string y] w fun e w' => e = .returned (.int .i64 (cmpS x.data.toList y.data.toList)) ∧ w = w' := by
  obtain ⟨z, hz⟩ : ∃ z, cmpS x.data.toList y.data.toList = z := ⟨_, rfl⟩
  rw [hz]
  unfold cmpS ltS at hz
  rw [← ByteArray.toList_eq, ← ByteArray.toList_eq] at hz
  have HN := Lib.hid (fun s W => isNaN_any s W)
  by_cases h1 : Op.bytesLess x.toList y.toList = true
  · rw [if_pos h1] at hz
    subst hz
    go_enter Tryz.func87, Tryz.ntmps87
    go_wp2_with (fail)
    refine (HN.out _ _).mono ?_
    rintro e w1 ⟨rfl, rfl⟩
    go_wp2_with (fail)
    refine (HN.out _ _).mono ?_
    rintro e w1 ⟨rfl, rfl⟩
    go_wp2_with (fail)
    go_ret
    exact ⟨rfl, rfl⟩
  · rw [if_neg h1] at hz
    have h1' : Op.bytesLess x.toList y.toList = false := by simpa using h1
    by_cases h2 : x.toList = y.toList
    · rw [if_pos h2] at hz
      subst hz
      have h3 : (x.toList == y.toList) = true := by simpa using h2
      clear h1 h2
      go_enter Tryz.func87, Tryz.ntmps87
      go_wp2_with (fail)
      refine (HN.out _ _).mono ?_
      rintro e w1 ⟨rfl, rfl⟩
      go_wp2_with (fail)
      refine (HN.out _ _).mono ?_
      rintro e w1 ⟨rfl, rfl⟩
      go_wp2_with (fail)
      go_ret
      exact ⟨rfl, rfl⟩
    · rw [if_neg h2] at hz
      subst hz
      have h3 : (x.toList == y.toList) = false := by simpa using h2
      clear h1 h2
      go_enter Tryz.func87, Tryz.ntmps87
      go_wp2_with (fail)
      refine (HN.out _ _).mono ?_
      rintro e w1 ⟨rfl, rfl⟩
      go_wp2_with (fail)
      refine (HN.out _ _).mono ?_
      rintro e w1 ⟨rfl, rfl⟩
      go_wp2_with (fail)
      go_ret
      exact ⟨rfl, rfl⟩
theorem cmpL_step {xs ys : List Bs} {k : Nat} {x y : Bs} (h : xs.take k = ys.take k) (hx : xs[k]? = some x) (hy : ys[k]? = some y) :
    cmpL xs ys = if cmpS x y = 0 then cmpL (xs.drop (k + 1)) (ys.drop (k + 1)) else cmpS x y := by
  obtain ⟨h1, rfl⟩ := List.getElem?_eq_some_iff.1 hx
  obtain ⟨h2, rfl⟩ := List.getElem?_eq_some_iff.1 hy
  have e1 : xs = xs.take k ++ (xs[k] :: xs.drop (k + 1)) := by rw [← List.drop_eq_getElem_cons h1, List.take_append_drop]
  have e2 : ys = ys.take k ++ (ys[k] :: ys.drop (k + 1)) := by rw [← List.drop_eq_getElem_cons h2, List.take_append_drop]
  have e3 : cmpL xs ys = cmpL (xs.take k ++ (xs[k] :: xs.drop (k + 1))) (ys.take k ++ (ys[k] :: ys.drop (k + 1))) := by rw [← e1, ← e2]
  rw [e3, h, cmpL_same]
  simp only [cmpL, lexC]

set_option maxRecDepth 100000 in
set_option maxHeartbeats 2000000 in
theorem compareL_any (xs ys : List Bs) (A B : Option Addr) (c d : Nat) (w : World) (hA : TTab w A (strs xs)) (hB : TTab w B (strs ys)) (hx : xs.length ≤ 1000000) (hy : ys.length ≤ 1000000) :
    Calls Tryz.prog 73 #[.slice A xs.length c, .slice B ys.length d] w fun e w' => e = .returned (.int .i64 (cmpL xs ys)) ∧ w = w' := by
  have HA := Lib.hid (And.intro hA hB)
  have hxI : (xs.length : Int) ≤ 1000000 := by omega
  have hyI : (ys.length : Int) ≤ 1000000 := by omega
  obtain ⟨z, hz⟩ : ∃ z, cmpL xs ys = z := ⟨_, rfl⟩
  rw [hz]
  have HZ := Lib.hid hz
  have HC := Lib.hid (fun x y W => compareS_any x y W)
  clear hA hB hz hx hy
  go_enter Tryz.func73, Tryz.ntmps73
  go_wp2_with (fail)
  go_loopg [11] xs.length (fun g v wr => ∃ k : Nat, g + k = xs.length ∧ v = .int .i64 (k : Int) ∧ wr = w ∧ k ≤ ys.length ∧ Aside (xs.take k = ys.take k))
  case atStart => exact ⟨0, by omega, rfl, rfl, by omega, (show Aside _ from rfl)⟩
  case round =>
    obtain ⟨k, hg, rfl, rfl, hky, hpre⟩ := hrel
    by_cases hlt : k < xs.length
    · obtain ⟨b0, o, rfl, hal, hac⟩ := HA.out.1 (by rw [strs_len]; omega)
      obtain ⟨x, hx⟩ : ∃ x, xs[k]? = some x := ⟨_, List.getElem?_eq_getElem hlt⟩
      have a0 : wr.cell? ⟨b0, o + k, none⟩ = some (.string ⟨x.toArray⟩) := hac k _ (strs_get hx)
      have hltI : (k : Int) < (xs.length : Int) := by omega
      by_cases hlt2 : k < ys.length
      · obtain ⟨b1, p, rfl, hbl, hbc⟩ := HA.out.2 (by rw [strs_len]; omega)
        obtain ⟨y, hy⟩ : ∃ y, ys[k]? = some y := ⟨_, List.getElem?_eq_getElem hlt2⟩
        have b0' : wr.cell? ⟨b1, p + k, none⟩ = some (.string ⟨y.toArray⟩) := hbc k _ (strs_get hy)
        have hlt2I : ¬ (ys.length : Int) ≤ (k : Int) := by omega
        have hlt3I : (k : Int) < (ys.length : Int) := by omega
        have hst := cmpL_step hpre.out hx hy
        rw [HZ.out] at hst
        have HCC := Lib.hid (HC.out ⟨x.toArray⟩ ⟨y.toArray⟩ wr)
        obtain ⟨q, hq⟩ : ∃ q, cmpS x y = q := ⟨_, rfl⟩
        have HCC2 : Calls Tryz.prog 87 #[.string ⟨x.toArray⟩, .string ⟨y.toArray⟩] wr fun e w' => e = .returned (.int .i64 q) ∧ wr = w' := by rw [← hq]; exact HCC.out
        have HCC3 := Lib.hid HCC2
        have htk : q = 0 → xs.take (k + 1) = ys.take (k + 1) := by
          intro h
          have hxy := (cmpS_tot.zero x y).1 (hq.trans h)
          subst hxy
          obtain ⟨g1, g2⟩ := List.getElem?_eq_some_iff.1 hx
          obtain ⟨g3, g4⟩ := List.getElem?_eq_some_iff.1 hy
          rw [List.take_succ_eq_append_getElem g1, List.take_succ_eq_append_getElem g3, g2, g4, hpre.out]
        rw [hq] at hst
        by_cases h0 : q = 0
        · have HT := Lib.hid (htk h0)
          subst h0
          clear hac hbc hx hy hst HCC HCC2 hq htk hpre
          go_wp2_with (fail)
          refine HCC3.out.mono ?_
          rintro e w1 ⟨rfl, rfl⟩
          go_wp2_with (fail)
          go_roundg (xs.length - (k + 1))
          case measure => omega
          case rel => exact ⟨k + 1, by omega, by go_num, rfl, by omega, HT.out⟩
        · rw [if_neg h0] at hst
          have HST := Lib.hid hst
          have hq0 : (q != 0) = true := by simpa using h0
          clear hac hbc hx hy hst HCC HCC2 hq htk hpre h0
          go_wp2_with (fail)
          refine HCC3.out.mono ?_
          rintro e w1 ⟨rfl, rfl⟩
          go_wp2_with (fail)
          go_ret
          rw [HST.out]
          exact ⟨rfl, rfl⟩
      · have hlt2I : (ys.length : Int) ≤ (k : Int) := by omega
        have hz1 : z = 1 := by
          rw [← HZ.out]
          have hye : ys = xs.take k := by rw [hpre.out, List.take_of_length_le (by omega)]
          obtain ⟨h1, rfl⟩ := List.getElem?_eq_some_iff.1 hx
          have e1 : xs = xs.take k ++ (xs[k] :: xs.drop (k + 1)) := by rw [← List.drop_eq_getElem_cons h1, List.take_append_drop]
          have e3 : cmpL xs ys = cmpL (xs.take k ++ (xs[k] :: xs.drop (k + 1))) (xs.take k ++ []) := by rw [← e1, List.append_nil, ← hye]
          rw [e3, cmpL_same]
          rfl
        have HZ1 := Lib.hid hz1
        clear hac hx hz1 hpre
        go_wp2_with (fail)
        go_ret
        rw [HZ1.out]
        exact ⟨rfl, rfl⟩
    · obtain rfl : k = xs.length := by omega
      have hxe : xs = ys.take xs.length := by rw [← hpre.out, List.take_length]
      by_cases hlt2 : xs.length < ys.length
      · have hltI : (xs.length : Int) < (ys.length : Int) := by omega
        have hz1 : z = -1 := by
          rw [← HZ.out]
          have e2 : ys = ys.take xs.length ++ (ys[xs.length] :: ys.drop (xs.length + 1)) := by rw [← List.drop_eq_getElem_cons hlt2, List.take_append_drop]
          have e3 : cmpL xs ys = cmpL (xs ++ []) (xs ++ (ys[xs.length] :: ys.drop (xs.length + 1))) := by
            rw [List.append_nil]
            congr 1
            rw [← hxe] at e2
            exact e2
          rw [e3, cmpL_same]
          rfl
        have HZ1 := Lib.hid hz1
        clear hz1 hpre hxe
        go_wp2_with (fail)
        go_ret
        rw [HZ1.out]
        exact ⟨rfl, rfl⟩
      · have hltI : ¬ (xs.length : Int) < (ys.length : Int) := by omega
        have hz1 : z = 0 := by
          rw [← HZ.out]
          refine (cmpL_tot.zero _ _).2 ?_
          rw [hxe, List.take_of_length_le (by omega)]
        have HZ1 := Lib.hid hz1
        clear hz1 hpre hxe
        go_wp2_with (fail)
        go_ret
        rw [HZ1.out]
        exact ⟨rfl, rfl⟩
end Go.Proofs.YthnngndnpigjbaaGreat
