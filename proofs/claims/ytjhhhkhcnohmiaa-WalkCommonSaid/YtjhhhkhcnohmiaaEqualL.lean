/- The walk of slices.Equal at texts. -/
import Derived.Test.YtjhhhkhcnohmiaaTTab
import Derived.Test.YtjhhhkhcnohmiaaRef01
import Derived.Deep.QuietTactic
import Derived.BigQuiet
import Derived.Deep.LoopGhost
import Derived.Outline
namespace Go.Proofs.Ytjhhhkhcnohmiaa
open Go.RowKit Go.Lib

theorem eqL_no {xs ys : List Bs} {k : Nat} {x y : Bs} (hx : xs[k]? = some x) (hy : ys[k]? = some y) (h : x ≠ y) : decide (xs = ys) = false := by
  rw [decide_eq_false_iff_not]
  rintro rfl
  rw [hx] at hy
  cases hy
  exact h rfl

set_option maxRecDepth 100000 in
set_option maxHeartbeats 2000000 in
theorem equalL_any (xs ys : List Bs) (A B : Option Addr) (c d : Nat) (w : World) (hA : TTab w A (strs xs)) (hB : TTab w B (strs ys)) (hx : xs.length ≤ 1000000) (hy : ys.length ≤ 1000000) :
    Calls Try.prog 70 #[.slice A xs.length c, .slice B ys.length d] w fun e w' => e = .returned (.bool (decide (xs = ys))) ∧ ∃ m, w' = w.drewN m := by
  obtain ⟨z, hz⟩ : ∃ z, decide (xs = ys) = z := ⟨_, rfl⟩
  rw [hz]
  have hxI : (xs.length : Int) ≤ 1000000 := by omega
  have hyI : (ys.length : Int) ≤ 1000000 := by omega
  by_cases hne : xs.length = ys.length
  · have HA := Lib.hid (And.intro hA (And.intro hB (And.intro hz hne)))
    have hnn : ((xs.length : Int) != (ys.length : Int)) = false := by rw [hne]; simp
    have hnn2 : (xs.length != ys.length) = false := by rw [hne]; simp
    clear hA hB hz hne
    go_enter Try.func70, Try.ntmps70
    go_wp2_with (fail)
    go_loopg [5, 13] xs.length (fun g _ v wr => ∃ k : Nat, v = .int .i64 (k : Int) ∧ Aside (g + k = xs.length) ∧ Aside (xs.take k = ys.take k) ∧ ∃ m, wr = w.drewN m)
    case atStart => exact ⟨0, rfl, (by show _ + 0 = _; rfl), rfl, 0, rfl⟩
    case round =>
      obtain ⟨k, rfl, hg, hpre, m, rfl⟩ := hrel
      by_cases hlt : k < xs.length
      · obtain ⟨hA, hB, hz, hne⟩ := HA.out
        obtain ⟨a, o, rfl, hal, hac⟩ := hA (by simpa [strs] using (by omega : 0 < xs.length))
        obtain ⟨b, p, rfl, hbl, hbc⟩ := hB (by simpa [strs] using (by omega : 0 < ys.length))
        obtain ⟨x, hx0⟩ : ∃ x, xs[k]? = some x := ⟨_, List.getElem?_eq_getElem hlt⟩
        obtain ⟨y, hy0⟩ : ∃ y, ys[k]? = some y := ⟨_, List.getElem?_eq_getElem (by omega)⟩
        obtain ⟨V, hV⟩ : ∃ V, w.drewN m = V := ⟨_, rfl⟩
        have a0 : V.cell? ⟨a, o + k, none⟩ = some (.string ⟨x.toArray⟩) := by rw [← hV]; exact hac k _ (by simp [strs, hx0])
        have b0 : V.cell? ⟨b, p + k, none⟩ = some (.string ⟨y.toArray⟩) := by rw [← hV]; exact hbc k _ (by simp [strs, hy0])
        have hltI : (k : Int) < (xs.length : Int) := by omega
        have hltJ : (k : Int) < (ys.length : Int) := by omega
        have hkI : (k : Int) ≤ 1000000 := by omega
        rw [hV]
        have HV := Lib.hid hV
        by_cases hxy : x = y
        · subst hxy
          have hts : xs.take (k + 1) = ys.take (k + 1) := by
            obtain ⟨h1, h2⟩ := List.getElem?_eq_some_iff.1 hx0
            obtain ⟨h3, h4⟩ := List.getElem?_eq_some_iff.1 hy0
            rw [List.take_succ_eq_append_getElem h1, List.take_succ_eq_append_getElem h3, h2, h4, hpre.out]
          have HT := Lib.hid hts
          clear hac hbc hV hx0 hy0 hts hne hA hB hz hpre
          go_wp2_with (fail)
          go_quiet (fail)
          go_wp2_with (fail)
          go_roundg (xs.length - (k + 1))
          case measure => have := hg.out; omega
          case rel => exact ⟨k + 1, by go_num, (by show _ = _; omega), HT.out, m + nq, by rw [← HV.out, World.drewN_drewN]⟩
        · obtain ⟨x', hx'⟩ : ∃ x' : ByteArray, (⟨x.toArray⟩ : ByteArray) = x' := ⟨_, rfl⟩
          obtain ⟨y', hy'⟩ : ∃ y' : ByteArray, (⟨y.toArray⟩ : ByteArray) = y' := ⟨_, rfl⟩
          rw [hx'] at a0
          rw [hy'] at b0
          have hq1 : ¬ x'.toList = y'.toList := by
            rw [← hx', ← hy', ByteArray.toList_eq, ByteArray.toList_eq]
            exact hxy
          have hq : (x'.toList != y'.toList) = true := by rw [bne_iff_ne]; exact hq1
          have hq2 : (x'.toList == y'.toList) = false := by rw [beq_eq_false_iff_ne]; exact hq1
          have hzf := eqL_no hx0 hy0 hxy
          rw [hz] at hzf
          have HZ := Lib.hid hzf
          clear hac hbc hV hx0 hy0 hxy hx' hy' hq1 hne hA hB hz hpre hzf
          go_wp2_with (fail)
          go_quiet (fail)
          go_wp2_with (fail)
          go_ret
          rw [HZ.out]
          exact ⟨rfl, m + nq, by rw [← HV.out, World.drewN_drewN]⟩
      · obtain rfl : k = xs.length := by have := hg.out; omega
        obtain ⟨hA, hB, hz, hne⟩ := HA.out
        have hzt : z = true := by
          rw [← hz, decide_eq_true_iff]
          have h := hpre.out
          rw [List.take_length, hne, List.take_length] at h
          exact h
        have HZ := Lib.hid hzt
        clear hA hB hz hne hzt hpre
        go_wp2_with (fail)
        go_ret
        rw [HZ.out]
        exact ⟨rfl, m, rfl⟩
  · have hzf : z = false := by
      rw [← hz, decide_eq_false_iff_not]
      rintro rfl
      exact hne rfl
    subst hzf
    have hnn : ((xs.length : Int) != (ys.length : Int)) = true := by rw [bne_iff_ne]; omega
    have hnn2 : (xs.length != ys.length) = true := by rw [bne_iff_ne]; exact hne
    clear hA hB hz hne
    go_enter Try.func70, Try.ntmps70
    go_wp2_with (fail)
    go_ret
    exact ⟨rfl, 0, rfl⟩
end Go.Proofs.Ytjhhhkhcnohmiaa
