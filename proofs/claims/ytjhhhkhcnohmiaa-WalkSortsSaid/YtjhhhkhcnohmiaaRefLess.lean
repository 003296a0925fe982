/- The walk of hardtackref02's Less. -/
import Derived.Test.YtjhhhkhcnohmiaaLess
import Derived.Test.YtjhhhkhcnohmiaaRefFold
import Derived.Deep.QuietTactic
import Derived.BigQuiet
import Derived.BigRegion
import Derived.RegionTactic
namespace Go.Proofs.Ytjhhhkhcnohmiaa
open Go.RowKit Go.Lib

theorem cmpL_end {xs ys : List Bs} {k : Nat} (h : xs.take k = ys.take k) (hx : k ≤ xs.length) (hy : k ≤ ys.length) (he : k = xs.length ∨ k = ys.length) :
    decide (cmpL xs ys < 0) = decide (xs.length < ys.length) := by
  have e1 : xs = xs.take k ++ xs.drop k := (List.take_append_drop k xs).symm
  have e2 : ys = xs.take k ++ ys.drop k := by rw [h, List.take_append_drop]
  have e3 : cmpL xs ys = cmpL (xs.drop k) (ys.drop k) := by
    have := cmpL_same (xs.take k) (xs.drop k) (ys.drop k)
    rw [← e1, ← e2] at this
    exact this
  rw [e3]
  rcases he with rfl | rfl
  · rw [List.drop_length]
    cases hd : ys.drop xs.length with
    | nil =>
      have := congrArg List.length hd
      simp at this
      simp [cmpL, lexC]
      omega
    | cons y t =>
      have := congrArg List.length hd
      simp at this
      simp [cmpL, lexC]
      omega
  · rw [List.drop_length]
    cases hd : xs.drop ys.length with
    | nil =>
      have := congrArg List.length hd
      simp at this
      simp [cmpL, lexC]
      omega
    | cons y t =>
      have := congrArg List.length hd
      simp at this
      simp [cmpL, lexC]
      omega
theorem rev_at {α : Type} {l : List α} {k : Nat} {x : α} (h : l.reverse[k]? = some x) : l[l.length - (k + 1)]? = some x ∧ k < l.length := by
  have hk : k < l.length := by
    have := (List.getElem?_eq_some_iff.1 h).1
    simpa using this
  rw [List.getElem?_reverse hk] at h
  rw [show l.length - (k + 1) = l.length - 1 - k by omega]
  exact ⟨h, hk⟩

set_option maxRecDepth 100000 in
set_option maxHeartbeats 4000000 in
theorem rLess_yes (a b : ByteArray) (ha : a.size ≤ maxLen) (hb : b.size ≤ maxLen) (hna : isName a.data.toList = true) (hnb : isName b.data.toList = true) (w : World) :
    Calls Try.prog 38 #[.string a, .string b] w fun e w' => e = .returned (.bool (decide (cmpL (ris a.data.toList) (ris b.data.toList) < 0))) ∧ Below w.heap.size w w' := by
  have HCa := Lib.hid (fun W => rCheck_any a ha W)
  have HCb := Lib.hid (fun W => rCheck_any b hb W)
  rw [show chkN a.data.toList = 0 from by unfold chkN; rw [if_pos hna]] at HCa
  rw [show chkN b.data.toList = 0 from by unfold chkN; rw [if_pos hnb]] at HCb
  have hra := ris_len a.data.toList
  have hrb := ris_len b.data.toList
  have h255a := ((isName_iff _).1 hna).1
  have h255b := ((isName_iff _).1 hnb).1
  unfold maxLen at ha hb
  have HFa := Lib.hid (fun W => rFold_any a (by omega) W)
  have HFb := Lib.hid (fun W => rFold_any b (by omega) W)
  obtain ⟨X, hX⟩ : ∃ X : ByteArray, (⟨(foldB a.data.toList).toArray⟩ : ByteArray) = X := ⟨_, rfl⟩
  obtain ⟨Y, hY⟩ : ∃ Y : ByteArray, (⟨(foldB b.data.toList).toArray⟩ : ByteArray) = Y := ⟨_, rfl⟩
  rw [hX] at HFa
  rw [hY] at HFb
  have hXl : X.data.toList = foldB a.data.toList := by rw [← hX]
  have hYl : Y.data.toList = foldB b.data.toList := by rw [← hY]
  have hXn : isName X.data.toList = true := by rw [hXl, isName_fold]; exact hna
  have hYn : isName Y.data.toList = true := by rw [hYl, isName_fold]; exact hnb
  have h255X := ((isName_iff _).1 hXn).1
  have h255Y := ((isName_iff _).1 hYn).1
  simp only [ByteArray.size_data, Array.length_toList] at h255X h255Y
  have HSX := Lib.hid (fun W => rSplit_any X (by unfold maxLen; omega) W)
  have HSY := Lib.hid (fun W => rSplit_any Y (by unfold maxLen; omega) W)
  unfold ris at hra hrb ⊢
  rw [← hXl] at hra ⊢
  rw [← hYl] at hrb ⊢
  rw [namL_yes hXn] at hra ⊢
  rw [namL_yes hYn] at hrb ⊢
  obtain ⟨xs, hxs⟩ : ∃ xs, (labs X.data.toList).1 = xs := ⟨_, rfl⟩
  obtain ⟨ys, hys⟩ : ∃ ys, (labs Y.data.toList).1 = ys := ⟨_, rfl⟩
  rw [hxs] at hra ⊢
  rw [hys] at hrb ⊢
  rw [List.length_reverse] at hra hrb
  have hxI : (xs.length : Int) ≤ 255 := by omega
  have hyI : (ys.length : Int) ≤ 255 := by omega
  obtain ⟨z, hz⟩ : ∃ z, decide (cmpL xs.reverse ys.reverse < 0) = z := ⟨_, rfl⟩
  rw [hz]
  have HH := Lib.hid (And.intro hXn (And.intro hYn (And.intro hxs (And.intro hys hz))))
  clear hX hY hXl hYl hXn hYn h255X h255Y hxs hys hz hra hrb h255a h255b hna hnb ha hb
  go_enter Try.func38, Try.ntmps38
  go_wp2_with (fail)
  with_reducible refine (HFa.out _).mono ?_
  rintro e w1 ⟨rfl, hb⟩
  have B1 := Lib.hid hb
  clear hb
  go_wp2_with (fail)
  with_reducible refine (HSX.out _).mono ?_
  rintro e w2 ⟨v, rfl, _, hs1, hb⟩
  have hs1' := hs1 HH.out.1
  rw [HH.out.2.2.1] at hs1'
  obtain ⟨A1, c1, rfl, _, _⟩ := hs1'.shape
  have T2 := Lib.hid (sl_tt hs1')
  rw [HH.out.1]
  have B2 := Lib.hid (B1.out.trans (hb.mono B1.out.size))
  clear hb hs1 hs1'
  go_wp2_with (fail)
  with_reducible refine (HFb.out _).mono ?_
  rintro e w3 ⟨rfl, hb⟩
  have B3 := Lib.hid (B2.out.trans (hb.mono B2.out.size))
  have T3 := Lib.hid (T2.out.below hb)
  clear hb
  go_wp2_with (fail)
  with_reducible refine (HSY.out _).mono ?_
  rintro e w4 ⟨v, rfl, _, hs1, hb⟩
  have hs1' := hs1 HH.out.2.1
  rw [HH.out.2.2.2.1] at hs1'
  obtain ⟨A2, c2, rfl, _, _⟩ := hs1'.shape
  have TY4 := Lib.hid (sl_tt hs1')
  rw [HH.out.2.1]
  have B4 := Lib.hid (B3.out.trans (hb.mono B3.out.size))
  have TX4 := Lib.hid (T3.out.below hb)
  clear hb hs1 hs1'
  go_wp2_with (fail)
  with_reducible refine (HCa.out _).mono ?_
  rintro e w5 ⟨rfl, hb⟩
  have B5 := Lib.hid (B4.out.trans (hb.mono B4.out.size))
  have TX5 := Lib.hid (TX4.out.below hb)
  have TY5 := Lib.hid (TY4.out.below hb)
  clear hb
  go_wp2_with (fail)
  with_reducible refine (HCb.out _).mono ?_
  rintro e w6 ⟨rfl, hb⟩
  have B6 := Lib.hid (B5.out.trans (hb.mono B5.out.size))
  have TX6 := Lib.hid (TX5.out.below hb)
  have TY6 := Lib.hid (TY5.out.below hb)
  clear hb
  go_wp2_with (fail)
  go_loopg [9, 10, 11] xs.length (fun g v _ _ wr => ∃ k : Nat, Aside (g + k = xs.length) ∧ v = .int .i64 ((k : Int) + 1) ∧ Aside (k ≤ ys.length) ∧ Aside (xs.reverse.take k = ys.reverse.take k) ∧ Aside (∃ m, wr = w6.drewN m))
  case atStart => exact ⟨0, rfl, rfl, Nat.zero_le _, rfl, 0, rfl⟩
  case round =>
    obtain ⟨k, hg, rfl, hky, hpre, hwr⟩ := hrel
    obtain ⟨m, rfl⟩ := hwr.out
    have B7 := Lib.hid (below_drewN B6.out m)
    by_cases hx : k < xs.length
    · by_cases hy : k < ys.length
      · obtain ⟨b0, o, rfl, hal, hac⟩ := TX6.out (by rw [strs_len]; omega)
        obtain ⟨b1, p, rfl, hbl, hbc⟩ := TY6.out (by rw [strs_len]; omega)
        obtain ⟨x, hxr⟩ : ∃ x, xs.reverse[k]? = some x := ⟨_, List.getElem?_eq_getElem (by simpa using hx)⟩
        obtain ⟨y, hyr⟩ : ∃ y, ys.reverse[k]? = some y := ⟨_, List.getElem?_eq_getElem (by simpa using hy)⟩
        have hxk := (rev_at hxr).1
        have hyk := (rev_at hyr).1
        have hst := cmpL_step hpre.out hxr hyr
        obtain ⟨i, hi⟩ : ∃ i, xs.length - (k + 1) = i := ⟨_, rfl⟩
        obtain ⟨j, hj⟩ : ∃ j, ys.length - (k + 1) = j := ⟨_, rfl⟩
        rw [hi] at hxk
        rw [hj] at hyk
        have a0 : w6.cell? ⟨b0, o + i, none⟩ = some (.string ⟨x.toArray⟩) := hac i _ (strs_get hxk)
        have b0' : w6.cell? ⟨b1, p + j, none⟩ = some (.string ⟨y.toArray⟩) := hbc j _ (strs_get hyk)
        have hi1 : IntKind.i64.wrap ((xs.length : Int) - ((k : Int) + 1)) = (i : Int) := by rw [IntKind.wrap_i64]; omega
        have hj1 : IntKind.i64.wrap ((ys.length : Int) - ((k : Int) + 1)) = (j : Int) := by rw [IntKind.wrap_i64]; omega
        have hi2 : (i : Int) < (xs.length : Int) := by omega
        have hj2 : (j : Int) < (ys.length : Int) := by omega
        have ht1 : (k : Int) + 1 ≤ (xs.length : Int) := by omega
        have ht2 : (k : Int) + 1 ≤ (ys.length : Int) := by omega
        have htk : x = y → xs.reverse.take (k + 1) = ys.reverse.take (k + 1) := by
          intro hxy
          subst hxy
          obtain ⟨g1, g2⟩ := List.getElem?_eq_some_iff.1 hxr
          obtain ⟨g3, g4⟩ := List.getElem?_eq_some_iff.1 hyr
          rw [List.take_succ_eq_append_getElem g1, List.take_succ_eq_append_getElem g3, g2, g4, hpre.out]
        obtain ⟨F, hF⟩ : ∃ F : ByteArray, (⟨x.toArray⟩ : ByteArray) = F := ⟨_, rfl⟩
        obtain ⟨G, hG⟩ : ∃ G : ByteArray, (⟨y.toArray⟩ : ByteArray) = G := ⟨_, rfl⟩
        have hFl : F.toList = x := by rw [ByteArray.toList_eq, ← hF]
        have hGl : G.toList = y := by rw [ByteArray.toList_eq, ← hG]
        rw [hF] at a0
        rw [hG] at b0'
        by_cases hxy : x = y
        · have HT := Lib.hid (And.intro (htk hxy) (And.intro hx hy))
          have hne : (F.toList == G.toList) = true := by rw [hFl, hGl, hxy]; simp
          clear hac hbc hxr hyr hxk hyk hst hi hj htk hF hG hFl hGl hxy hx hy
          go_wp2_with (fail)
          go_region
          go_wp2_with (fail)
          go_roundg (xs.length - (k + 1))
          case measure => have := hg.out; have := HT.out.2.1; omega
          case rel => exact ⟨k + 1, (by show _ = _; have := hg.out; have := HT.out.2.1; omega), by go_num, HT.out.2.2, HT.out.1, _, rfl⟩
        · have hne : (F.toList == G.toList) = false := by rw [hFl, hGl]; simpa using hxy
          have hres : Op.bytesLess F.toList G.toList = z := by
            rw [hFl, hGl, ← HH.out.2.2.2.2, hst]
            have h0 : ¬ cmpS x y = 0 := fun h => hxy ((cmpS_tot.zero x y).1 h)
            rw [if_neg h0]
            show ltS x y = _
            rw [ltS_lex, Bool.eq_iff_iff, decide_eq_true_iff, decide_eq_true_iff]
            exact (cmpS_sign x y).1.symm
          have HR := Lib.hid hres
          clear hac hbc hxr hyr hxk hyk hst hi hj htk hF hG hFl hGl hxy hx hy hres
          go_wp2_with (fail)
          go_region
          go_wp2_with (fail)
          go_ret
          exact ⟨ret_b HR.out, B7.out.drew⟩
      · have ht1 : (k : Int) + 1 ≤ (xs.length : Int) := by omega
        have ht2 : ¬ (k : Int) + 1 ≤ (ys.length : Int) := by omega
        have hky2 := hky.out
        have hres : decide (xs.length < ys.length) = z := by
          rw [← HH.out.2.2.2.2, cmpL_end hpre.out (by simpa using Nat.le_of_lt hx) (by simpa using hky2) (.inr (by simp; omega))]
          simp
        have HR := Lib.hid hres
        clear hx hy hres hky2
        go_wp2_with (fail)
        go_ret
        exact ⟨ret_b HR.out, B7.out⟩
    · have ht1 : ¬ (k : Int) + 1 ≤ (xs.length : Int) := by omega
      have hk2 : k ≤ xs.length := by have := hg.out; omega
      have hky2 := hky.out
      have hres : decide (xs.length < ys.length) = z := by
        rw [← HH.out.2.2.2.2, cmpL_end hpre.out (by simpa using hk2) (by simpa using hky2) (.inl (by simp; omega))]
        simp
      have HR := Lib.hid hres
      clear hx hres hky2 hk2
      go_wp2_with (fail)
      go_ret
      exact ⟨ret_b HR.out, B7.out⟩

set_option maxRecDepth 100000 in
set_option maxHeartbeats 2000000 in
theorem rLess_no (a b : ByteArray) (ha : a.size ≤ maxLen) (hb : b.size ≤ maxLen) (hn : (isName a.data.toList && isName b.data.toList) = false) (w : World) :
    Calls Try.prog 38 #[.string a, .string b] w fun e w' => e = .returned (.bool false) ∧ Below w.heap.size w w' := by
  unfold maxLen at ha hb
  have HFa := Lib.hid (fun W => rFold_any a (by omega) W)
  have HFb := Lib.hid (fun W => rFold_any b (by omega) W)
  obtain ⟨X, hX⟩ : ∃ X : ByteArray, (⟨(foldB a.data.toList).toArray⟩ : ByteArray) = X := ⟨_, rfl⟩
  obtain ⟨Y, hY⟩ : ∃ Y : ByteArray, (⟨(foldB b.data.toList).toArray⟩ : ByteArray) = Y := ⟨_, rfl⟩
  rw [hX] at HFa
  rw [hY] at HFb
  have hXl : X.data.toList = foldB a.data.toList := by rw [← hX]
  have hYl : Y.data.toList = foldB b.data.toList := by rw [← hY]
  have hXs := congrArg List.length hXl
  have hYs := congrArg List.length hYl
  rw [foldB_length] at hXs hYs
  simp only [ByteArray.size_data, Array.length_toList] at hXs hYs
  have HSX := Lib.hid (fun W => rSplit_any X (by unfold maxLen; omega) W)
  have HSY := Lib.hid (fun W => rSplit_any Y (by unfold maxLen; omega) W)
  rw [← isName_fold a.data.toList, ← isName_fold b.data.toList, ← hXl, ← hYl] at hn
  obtain ⟨p, hp⟩ : ∃ p, isName X.data.toList = p := ⟨_, rfl⟩
  obtain ⟨q, hq⟩ : ∃ q, isName Y.data.toList = q := ⟨_, rfl⟩
  rw [hp, hq] at hn
  have HP := Lib.hid (And.intro hp hq)
  have hn2 : p = false ∨ (p = true ∧ q = false) := by cases p <;> simp_all
  clear hX hY hXl hYl hXs hYs hp hq hn ha hb
  rcases hn2 with rfl | ⟨rfl, rfl⟩
  all_goals
    go_enter Try.func38, Try.ntmps38
    go_wp2_with (fail)
    with_reducible refine (HFa.out _).mono ?_
    rintro e w1 ⟨rfl, hb⟩
    have B1 := Lib.hid hb
    clear hb
    go_wp2_with (fail)
    with_reducible refine (HSX.out _).mono ?_
    rintro e w2 ⟨v, rfl, ⟨A1, n1, c1, rfl⟩, _, hb⟩
    rw [HP.out.1]
    have B2 := Lib.hid (B1.out.trans (hb.mono B1.out.size))
    clear hb
    go_wp2_with (fail)
    with_reducible refine (HFb.out _).mono ?_
    rintro e w3 ⟨rfl, hb⟩
    have B3 := Lib.hid (B2.out.trans (hb.mono B2.out.size))
    clear hb
    go_wp2_with (fail)
    with_reducible refine (HSY.out _).mono ?_
    rintro e w4 ⟨v, rfl, ⟨A2, n2, c2, rfl⟩, _, hb⟩
    rw [HP.out.2]
    have B4 := Lib.hid (B3.out.trans (hb.mono B3.out.size))
    clear hb
    go_wp2_with (fail)
    go_ret
    exact ⟨rfl, B4.out⟩
theorem rLess_any (a b : ByteArray) (ha : a.size ≤ maxLen) (hb : b.size ≤ maxLen) (w : World) :
    Calls Try.prog 38 #[.string a, .string b] w fun e w' => e = .returned (.bool (lessP a.data.toList b.data.toList)) ∧ Below w.heap.size w w' := by
  unfold lessP
  cases h1 : isName a.data.toList with
  | false => exact rLess_no a b ha hb (by rw [h1]; rfl) w
  | true =>
    cases h2 : isName b.data.toList with
    | false => exact rLess_no a b ha hb (by rw [h1, h2]; rfl) w
    | true => exact rLess_yes a b ha hb h1 h2 w
end Go.Proofs.Ytjhhhkhcnohmiaa
