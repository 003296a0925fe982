/- The walks of slices.Index, Contains and Clone at numbers. -/
import Derived.Test.YtkdfbmbccopchaaRet
import Derived.Test.YtkdfbmbccopchaaTTab
import Derived.Deep.LoopGhost
import Derived.Outline
namespace Go.Proofs.Ytkdfbmbccopchaa
open Go.RowKit Go.Lib

/-- The first place of a number; below 0: it is not there. -/
def idxZ (xs : List Int) (v : Int) : Int := match xs.findIdx? (fun x => x == v) with
  | some i => (i : Int)
  | none => -1
theorem idxZ_no {xs : List Int} {v : Int} (h : v ∉ xs) : idxZ xs v = -1 := by
  unfold idxZ
  rw [List.findIdx?_eq_none_iff.2 (fun x hx => by
    rw [beq_eq_false_iff_ne]
    intro e; subst e; exact h hx)]
theorem idxZ_at {xs : List Int} {v : Int} {i : Nat} (h : xs[i]? = some v) (hn : ∀ j, j < i → xs[j]? ≠ some v) : idxZ xs v = (i : Int) := by
  unfold idxZ
  rw [List.findIdx?_eq_some_iff_getElem.2 ⟨(List.getElem?_eq_some_iff.1 h).1, by rw [(List.getElem?_eq_some_iff.1 h).2]; simp, fun j hj e => by
    have hlt : j < xs.length := Nat.lt_trans hj (List.getElem?_eq_some_iff.1 h).1
    exact hn j hj (by rw [List.getElem?_eq_getElem hlt]; simpa using e)⟩]

set_option maxRecDepth 100000 in
set_option maxHeartbeats 1000000 in
theorem indexI_any (xs : List Int) (A : Option Addr) (c : Nat) (v : Int) (w : World) (hA : TTab w A (xs.map (Value.int .i64))) (hl : xs.length ≤ 1000000) :
    Calls Try.prog 70 #[.slice A xs.length c, .int .i64 v] w fun e w' => e = .returned (.int .i64 (idxZ xs v)) ∧ w = w' := by
  have HA := Lib.hid hA
  obtain ⟨z, hz⟩ : ∃ z, idxZ xs v = z := ⟨_, rfl⟩
  rw [hz]
  have HZ := Lib.hid hz
  have hlI : (xs.length : Int) ≤ 1000000 := by omega
  clear hA hl hz
  go_enter Try.func70, Try.ntmps70
  go_wp2_with (fail)
  go_loopg [5, 8] xs.length (fun g _ v8 wr => ∃ k : Nat, v8 = .int .i64 (k : Int) ∧ Aside (g + k = xs.length) ∧ Aside (∀ j, j < k → xs[j]? ≠ some v) ∧ wr = w)
  case atStart => exact ⟨0, rfl, rfl, (show Aside _ from fun j hj => absurd hj (Nat.not_lt_zero _)), rfl⟩
  case round =>
    obtain ⟨k, rfl, hg, hn, rfl⟩ := hrel
    by_cases hlt : k < xs.length
    · obtain ⟨b0, o, rfl, hal, hac⟩ := HA.out (by rw [List.length_map]; omega)
      obtain ⟨x, hxk⟩ : ∃ x, xs[k]? = some x := ⟨_, List.getElem?_eq_getElem hlt⟩
      have a0 : wr.cell? ⟨b0, o + k, none⟩ = some (.int .i64 x) := hac k _ (by rw [List.getElem?_map, hxk]; rfl)
      have hltI : (k : Int) < (xs.length : Int) := by omega
      by_cases he : v = x
      · have hee : (v == x) = true := by simpa using he
        have hz2 : (k : Int) = z := by rw [← HZ.out]; exact (idxZ_at (by rw [hxk, he]) hn.out).symm
        have HZ2 := Lib.hid hz2
        clear hac hxk hlt he hz2
        go_wp2_with (fail)
        go_ret
        exact ⟨ret_i HZ2.out, rfl⟩
      · have hee : (v == x) = false := by simpa using he
        have HX := Lib.hid (And.intro hxk (And.intro hlt he))
        clear hac hxk hlt he
        go_wp2_with (fail)
        go_roundg (xs.length - (k + 1))
        case measure => have := hg.out; have := HX.out.2.1; omega
        case rel =>
          refine ⟨k + 1, by go_num, (by show _ = _; have := hg.out; have := HX.out.2.1; omega), (show Aside _ from fun j hj => ?_), rfl⟩
          rcases Nat.lt_or_ge j k with h | h
          · exact hn.out j h
          · obtain rfl : j = k := by omega
            rw [HX.out.1]
            intro e
            exact HX.out.2.2 (Option.some.inj e).symm
    · have hz2 : (-1 : Int) = z := by
        rw [← HZ.out]
        refine (idxZ_no fun hm => ?_).symm
        obtain ⟨i, hi⟩ := List.getElem?_of_mem hm
        exact hn.out i (by have := (List.getElem?_eq_some_iff.1 hi).1; have := hg.out; omega) hi
      have HZ2 := Lib.hid hz2
      have hltI : ¬ (k : Int) < (xs.length : Int) := by omega
      clear hlt hz2
      go_wp2_with (fail)
      go_ret
      exact ⟨ret_i HZ2.out, rfl⟩

set_option maxRecDepth 100000 in
set_option maxHeartbeats 1000000 in
theorem indexU_any (xs : List Int) (A : Option Addr) (c : Nat) (v : Int) (w : World) (hA : TTab w A (xs.map (Value.int .u32))) (hl : xs.length ≤ 1000000) :
    Calls Try.prog 55 #[.slice A xs.length c, .int .u32 v] w fun e w' => e = .returned (.int .i64 (idxZ xs v)) ∧ w = w' := by
  have HA := Lib.hid hA
  obtain ⟨z, hz⟩ : ∃ z, idxZ xs v = z := ⟨_, rfl⟩
  rw [hz]
  have HZ := Lib.hid hz
  have hlI : (xs.length : Int) ≤ 1000000 := by omega
  clear hA hl hz
  go_enter Try.func55, Try.ntmps55
  go_wp2_with (fail)
  go_loopg [5, 8] xs.length (fun g _ v8 wr => ∃ k : Nat, v8 = .int .i64 (k : Int) ∧ Aside (g + k = xs.length) ∧ Aside (∀ j, j < k → xs[j]? ≠ some v) ∧ wr = w)
  case atStart => exact ⟨0, rfl, rfl, (show Aside _ from fun j hj => absurd hj (Nat.not_lt_zero _)), rfl⟩
  case round =>
    obtain ⟨k, rfl, hg, hn, rfl⟩ := hrel
    by_cases hlt : k < xs.length
    · obtain ⟨b0, o, rfl, hal, hac⟩ := HA.out (by rw [List.length_map]; omega)
      obtain ⟨x, hxk⟩ : ∃ x, xs[k]? = some x := ⟨_, List.getElem?_eq_getElem hlt⟩
      have a0 : wr.cell? ⟨b0, o + k, none⟩ = some (.int .u32 x) := hac k _ (by rw [List.getElem?_map, hxk]; rfl)
      have hltI : (k : Int) < (xs.length : Int) := by omega
      by_cases he : v = x
      · have hee : (v == x) = true := by simpa using he
        have hz2 : (k : Int) = z := by rw [← HZ.out]; exact (idxZ_at (by rw [hxk, he]) hn.out).symm
        have HZ2 := Lib.hid hz2
        clear hac hxk hlt he hz2
        go_wp2_with (fail)
        go_ret
        exact ⟨ret_i HZ2.out, rfl⟩
      · have hee : (v == x) = false := by simpa using he
        have HX := Lib.hid (And.intro hxk (And.intro hlt he))
        clear hac hxk hlt he
        go_wp2_with (fail)
        go_roundg (xs.length - (k + 1))
        case measure => have := hg.out; have := HX.out.2.1; omega
        case rel =>
          refine ⟨k + 1, by go_num, (by show _ = _; have := hg.out; have := HX.out.2.1; omega), (show Aside _ from fun j hj => ?_), rfl⟩
          rcases Nat.lt_or_ge j k with h | h
          · exact hn.out j h
          · obtain rfl : j = k := by omega
            rw [HX.out.1]
            intro e
            exact HX.out.2.2 (Option.some.inj e).symm
    · have hz2 : (-1 : Int) = z := by
        rw [← HZ.out]
        refine (idxZ_no fun hm => ?_).symm
        obtain ⟨i, hi⟩ := List.getElem?_of_mem hm
        exact hn.out i (by have := (List.getElem?_eq_some_iff.1 hi).1; have := hg.out; omega) hi
      have HZ2 := Lib.hid hz2
      have hltI : ¬ (k : Int) < (xs.length : Int) := by omega
      clear hlt hz2
      go_wp2_with (fail)
      go_ret
      exact ⟨ret_i HZ2.out, rfl⟩

set_option maxRecDepth 100000 in
theorem containsI_any (xs : List Int) (A : Option Addr) (c : Nat) (v : Int) (w : World) (hA : TTab w A (xs.map (Value.int .i64))) (hl : xs.length ≤ 1000000) :
    Calls Try.prog 50 #[.slice A xs.length c, .int .i64 v] w fun e w' => e = .returned (.bool (decide (v ∈ xs))) ∧ w = w' := by
  have H := Lib.hid (indexI_any xs A c v w hA hl)
  have hq : decide (0 ≤ idxZ xs v) = decide (v ∈ xs) := by
    by_cases hm : v ∈ xs
    · rw [decide_eq_true hm, decide_eq_true_iff]
      unfold idxZ
      cases h : xs.findIdx? (fun x => x == v) with
      | some i => simp
      | none =>
        have := List.findIdx?_eq_none_iff.1 h v hm
        simp at this
    · rw [decide_eq_false hm, idxZ_no hm]; decide
  obtain ⟨r, hr⟩ : ∃ r, decide (v ∈ xs) = r := ⟨_, rfl⟩
  rw [hr] at hq ⊢
  generalize idxZ xs v = z at H hq
  have HQ := Lib.hid hq
  clear hA hq hr
  go_enter Try.func50, Try.ntmps50
  go_wp2_with (fail)
  with_reducible refine H.out.mono ?_
  rintro e w1 ⟨rfl, rfl⟩
  go_wp2_with (fail)
  go_ret
  exact ⟨ret_b HQ.out, rfl⟩
end Go.Proofs.Ytkdfbmbccopchaa
