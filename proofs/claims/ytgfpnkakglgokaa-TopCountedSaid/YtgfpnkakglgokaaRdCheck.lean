/- The walk of package rdata's Check. Conditions: none. -/
import Derived.Test.YtgfpnkakglgokaaRdCut
namespace Go.Proofs.Ytgfpnkakglgokaa
open Go.RowKit Go.Lib

theorem formN_le' {t : Int} {f : Nat × Nat × Nat} (h : formN t = some f) : f.1 ≤ 3 ∧ f.2.1 ≤ 2 ∧ f.2.2 ≤ 5 := by
  unfold formN at h
  split at h
  · injection h with h; subst h; decide
  · split at h
    · injection h with h; subst h; decide
    · split at h
      · injection h with h; subst h; decide
      · split at h
        · injection h with h; subst h; decide
        · cases h

theorem chk_eq {t : Int} {l : Bs} {b : Bool} (h : okD t l = b) : chkD t l = if b = true then 0 else 2 := by unfold chkD; rw [h]
set_option maxRecDepth 100000 in
set_option maxHeartbeats 8000000 in
theorem rdCheck_any (t : Int) (s : ByteArray) (hs : s.size ≤ 140737488355328) (w : World) : Calls Try.prog 63 #[.int .u16 t, .string s] w fun e w' => e = .returned (.int .i64 (chkD t s.data.toList)) ∧ Below w.heap.size w w' := by
  have hll : s.data.toList.length = s.size := by simp
  by_cases hbig : 4096 < s.size
  · have hI : decide ((s.size : Int) ≤ 4096) = false := by simp; omega
    have HE := Lib.hid (chk_eq (t := t) (l := s.data.toList) (b := false) (by unfold okD; rw [decide_eq_false (by omega)]; rfl))
    clear hbig hll hs
    go_enter Try.func63, Try.ntmps63
    go_wp2_with (fail)
    go_ret
    exact ⟨by rw [HE.out]; rfl, Below.refl _ _⟩
  have hd0 : decide (s.data.toList.length ≤ 4096) = true := by simp; omega
  have hI : decide ((s.size : Int) ≤ 4096) = true := by simp; omega
  by_cases h1 : t = 1
  · subst h1
    by_cases h4 : s.size = 4
    · have hI2 : ((s.size : Int) == 4) = true := by simp; omega
      have HE := Lib.hid (chk_eq (t := 1) (l := s.data.toList) (b := true) (by unfold okD; rw [hd0, if_pos rfl, hll, h4]; rfl))
      clear hbig hll hs hd0 h4
      go_enter Try.func63, Try.ntmps63
      go_wp2_with (fail)
      go_ret
      exact ⟨by rw [HE.out]; rfl, Below.refl _ _⟩
    · have hI2 : ((s.size : Int) == 4) = false := by simp; omega
      have HE := Lib.hid (chk_eq (t := 1) (l := s.data.toList) (b := false) (by unfold okD; rw [hd0, if_pos rfl, hll, decide_eq_false h4]; rfl))
      clear hbig hll hs hd0 h4
      go_enter Try.func63, Try.ntmps63
      go_wp2_with (fail)
      go_ret
      exact ⟨by rw [HE.out]; rfl, Below.refl _ _⟩
  have q1 : (t == 1) = false := by simp [h1]
  by_cases h28 : t = 28
  · subst h28
    by_cases h4 : s.size = 16
    · have hI2 : ((s.size : Int) == 16) = true := by simp; omega
      have HE := Lib.hid (chk_eq (t := 28) (l := s.data.toList) (b := true) (by unfold okD; rw [hd0, if_neg (by decide), if_pos rfl, hll, h4]; rfl))
      clear hbig hll hs hd0 h4 q1
      go_enter Try.func63, Try.ntmps63
      go_wp2_with (fail)
      go_ret
      exact ⟨by rw [HE.out]; rfl, Below.refl _ _⟩
    · have hI2 : ((s.size : Int) == 16) = false := by simp; omega
      have HE := Lib.hid (chk_eq (t := 28) (l := s.data.toList) (b := false) (by unfold okD; rw [hd0, if_neg (by decide), if_pos rfl, hll, decide_eq_false h4]; rfl))
      clear hbig hll hs hd0 h4 q1
      go_enter Try.func63, Try.ntmps63
      go_wp2_with (fail)
      go_ret
      exact ⟨by rw [HE.out]; rfl, Below.refl _ _⟩
  have q2 : (t == 28) = false := by simp [h28]
  by_cases h16 : t = 16
  · subst h16
    have HT := Lib.hid (texts_any s (by omega) w)
    have hq : okD 16 s.data.toList = (textsN s.data.toList).isSome := by unfold okD; rw [hd0, if_neg (by decide), if_neg (by decide), if_pos rfl]; rfl
    have HQ := Lib.hid hq
    clear hbig hll hs hd0 q1 q2 hq
    go_enter Try.func63, Try.ntmps63
    go_wp2_with (fail)
    with_reducible refine HT.out.mono ?_
    rintro e w2 hpost
    clear HT
    rcases hpost with ⟨hq, rfl, hb⟩ | ⟨ts, A, c, hq, rfl, _, _, hb⟩
    · have HE := Lib.hid (And.intro (chk_eq (by rw [HQ.out, hq]; rfl : okD 16 s.data.toList = false)) hb)
      clear hq hb
      go_wp2_with (fail)
      go_ret
      exact ⟨by rw [HE.out.1]; rfl, HE.out.2⟩
    · have HE := Lib.hid (And.intro (chk_eq (by rw [HQ.out, hq]; rfl : okD 16 s.data.toList = true)) hb)
      clear hq hb
      go_wp2_with (fail)
      go_ret
      exact ⟨by rw [HE.out.1]; rfl, HE.out.2⟩
  have q3 : (t == 16) = false := by simp [h16]
  have HFO := Lib.hid (fun W => formOf_any t W)
  cases hf : formN t with
  | none =>
    have e1 : formT t = ((0, 0, 0), false) := by unfold formT; rw [hf]
    have ev : formV (formT t).1 = .agg #[.int .i64 0, .int .i64 0, .int .i64 0] := by rw [e1]; rfl
    have eb : (formT t).2 = false := by rw [e1]
    have HE := Lib.hid (And.intro (chk_eq (t := t) (l := s.data.toList) (b := true) (by unfold okD; rw [hd0, if_neg h1, if_neg h28, if_neg h16, hf]; rfl)) (And.intro ev eb))
    clear hbig hll hs hd0 h1 h28 h16 hf e1 ev eb
    go_enter Try.func63, Try.ntmps63
    go_wp2_with (fail)
    with_reducible refine (HFO.out _).mono ?_
    rintro e w2 ⟨rfl, hb⟩
    rw [HE.out.2.1, HE.out.2.2]
    have HB := Lib.hid hb
    clear hb
    go_wp2_with (fail)
    go_ret
    exact ⟨by rw [HE.out.1]; rfl, HB.out.alloc HB.out.size _⟩
  | some f =>
    have e1 : formT t = (f, true) := by unfold formT; rw [hf]
    have ev : formV (formT t).1 = .agg #[.int .i64 (f.1 : Int), .int .i64 (f.2.1 : Int), .int .i64 (f.2.2 : Int)] := by rw [e1]; rfl
    have eb : (formT t).2 = true := by rw [e1]
    have hq : okD t s.data.toList = (cutN f s.data.toList).isSome := by unfold okD; rw [hd0, if_neg h1, if_neg h28, if_neg h16, hf]; rfl
    have HC := fun W => rdCut_any f (formN_le' hf) s hs W
    unfold formV at HC
    have HC := Lib.hid HC
    have HE := Lib.hid (And.intro hq (And.intro ev eb))
    clear hbig hll hs hd0 h1 h28 h16 hf e1 ev eb hq
    go_enter Try.func63, Try.ntmps63
    go_wp2_with (fail)
    with_reducible refine (HFO.out _).mono ?_
    rintro e w2 ⟨rfl, hb⟩
    rw [HE.out.2.1, HE.out.2.2]
    have hbA := hb.alloc hb.size (.cells #[.int .i64 (f.1 : Int), .int .i64 (f.2.1 : Int), .int .i64 (f.2.2 : Int)] 141)
    have HB := Lib.hid hbA
    clear hb hbA
    go_wp2_with (fail)
    with_reducible refine (HC.out _).mono ?_
    rintro e w4 hpost
    clear HC HFO
    rcases hpost with ⟨hq, rfl, hb4⟩ | ⟨p, A, c, hq, rfl, _, _, hb4⟩
    · have HF := Lib.hid (And.intro (chk_eq (by rw [HE.out.1, hq]; rfl : okD t s.data.toList = false)) (HB.out.trans (hb4.mono HB.out.size)))
      clear hq hb4
      unfold noParts
      go_wp2_with (fail)
      go_ret
      exact ⟨by rw [HF.out.1]; rfl, HF.out.2⟩
    · have HF := Lib.hid (And.intro (chk_eq (by rw [HE.out.1, hq]; rfl : okD t s.data.toList = true)) (HB.out.trans (hb4.mono HB.out.size)))
      clear hq hb4
      unfold partsV bsV
      go_wp2_with (fail)
      go_ret
      exact ⟨by rw [HF.out.1]; rfl, HF.out.2⟩
end Go.Proofs.Ytgfpnkakglgokaa
