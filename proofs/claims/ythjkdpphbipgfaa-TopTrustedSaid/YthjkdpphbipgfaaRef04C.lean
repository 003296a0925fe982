/- The walks of the reference's Check, Names, Fold, number, Addr, Least, Texts (hardtackref04). Conditions: none. -/
import Derived.Test.YthjkdpphbipgfaaRef04B
import Derived.Test.YthjkdpphbipgfaaRdForm
import Derived.Test.YthjkdpphbipgfaaRdCheck
import Derived.Test.YthjkdpphbipgfaaRdNames
namespace Go.Proofs.Ythjkdpphbipgfaa
open Go.RowKit Go.Lib

theorem splitN_none {t : Int} {l : Bs} {f : Nat × Nat × Nat} (hf : formN t = some f) (h : splitN t l = none) : cutN f l = none := by
  unfold splitN formA at h
  rw [hf] at h
  dsimp only at h
  unfold cutN
  split at h
  · rename_i hl; rw [if_pos hl]
  · rename_i hl; rw [if_neg hl, h]
theorem splitN_some {t : Int} {l : Bs} {f : Nat × Nat × Nat} (hf : formN t = some f) {ns : List Bs} {r : Bs} (h : splitN t l = some (ns, r)) : cutN f l = if r.length = (formA t).2.2 then some (l.take (formA t).1, ns, r) else none := by
  unfold splitN at h
  have e : formA t = (2 * f.1, f.2.1, 4 * f.2.2) := by unfold formA; rw [hf]
  rw [e] at h ⊢
  dsimp only at h ⊢
  unfold cutN
  split at h
  · cases h
  · rename_i hl; rw [if_neg hl, h]
theorem form_ne {t : Int} {f : Nat × Nat × Nat} (hf : formN t = some f) : t ≠ 1 ∧ t ≠ 28 ∧ t ≠ 16 := by
  unfold formN at hf
  refine ⟨fun e => ?_, fun e => ?_, fun e => ?_⟩ <;> (subst e; simp at hf)
theorem okD_form {t : Int} {l : Bs} {f : Nat × Nat × Nat} (hf : formN t = some f) : okD t l = (decide (l.length ≤ 4096) && (cutN f l).isSome) := by
  obtain ⟨h1, h2, h3⟩ := form_ne hf
  unfold okD
  rw [if_neg h1, if_neg h2, if_neg h3, hf]
theorem look_bad {t : Int} {l : Bs} {f : Nat × Nat × Nat} (hf : formN t = some f) (h : okD t l = false) : lookN t l = none := by
  rw [okD_form hf, Bool.and_eq_false_iff] at h
  unfold lookN
  rw [hf]
  dsimp only
  rcases h with h | h
  · rw [if_neg (by simpa using h)]
  · split
    · cases hq : cutN f l with
      | none => rfl
      | some p => rw [hq] at h; cases h
    · rfl
theorem look_good {t : Int} {l : Bs} {f : Nat × Nat × Nat} (hf : formN t = some f) (h : okD t l = true) : ∃ p, lookN t l = some p ∧ cutN f l = some p := by
  rw [okD_form hf, Bool.and_eq_true] at h
  obtain ⟨p, hp⟩ := Option.isSome_iff_exists.1 h.2
  refine ⟨p, ?_, hp⟩
  unfold lookN
  rw [hf]
  dsimp only
  rw [if_pos (by simpa using h.1), hp]

set_option maxRecDepth 100000 in
set_option maxHeartbeats 8000000 in
theorem rCheck4_any (t : Int) (s : ByteArray) (hs : s.size ≤ 1000000) (w : World) : Calls Try.prog 77 #[.int .u16 t, .string s] w fun e w' => e = .returned (.int .i64 (chkD t s.data.toList)) ∧ Below w.heap.size w w' := by
  have hll : s.data.toList.length = s.size := by simp
  by_cases hbig : 4096 < s.size
  · have hI : decide (4096 < (s.size : Int)) = true := by simp; omega
    have hd0 : decide (s.data.toList.length ≤ 4096) = false := by simp; omega
    by_cases h1 : t = 1
    · subst h1
      by_cases h4 : s.size = 4
      · exact absurd hbig (by omega)
      · have hI2 : ((s.size : Int) == 4) = false := by simp; omega
        have HE := Lib.hid (chk_eq (t := 1) (l := s.data.toList) (b := false) (by unfold okD; rw [hd0, if_pos rfl, hll, decide_eq_false h4]; rfl))
        clear hbig hll hs hd0 h4
        go_enter Try.func77, Try.ntmps77
        go_wp2_with (fail)
        go_ret
        exact ⟨by rw [HE.out]; rfl, Below.refl _ _⟩
    have q1 : (t == 1) = false := by simp [h1]
    by_cases h28 : t = 28
    · subst h28
      by_cases h4 : s.size = 16
      · exact absurd hbig (by omega)
      · have hI2 : ((s.size : Int) == 16) = false := by simp; omega
        have HE := Lib.hid (chk_eq (t := 28) (l := s.data.toList) (b := false) (by unfold okD; rw [hd0, if_neg (by decide), if_pos rfl, hll, decide_eq_false h4]; rfl))
        clear hbig hll hs hd0 h4 q1
        go_enter Try.func77, Try.ntmps77
        go_wp2_with (fail)
        go_ret
        exact ⟨by rw [HE.out]; rfl, Below.refl _ _⟩
    have q2 : (t == 28) = false := by simp [h28]
    by_cases h16 : t = 16
    · subst h16
      have HT := Lib.hid (rTexts_any s (by omega) w)
      have HQ : RowKit.Hid (okD 16 s.data.toList = (false && (textsN s.data.toList).isSome)) := Lib.hid (by unfold okD; rw [hd0, if_neg (by decide), if_neg (by decide), if_pos rfl])
      clear hbig hll hs hd0 q1 q2
      go_enter Try.func77, Try.ntmps77
      go_wp2_with (fail)
      with_reducible refine HT.out.mono ?_
      rintro e w2 hpost
      clear HT
      rcases hpost with ⟨hq, rfl, hb⟩ | ⟨ts, A, c, hq, rfl, _, _, hb⟩
      · have HE := Lib.hid (And.intro (chk_eq (by rw [HQ.out, hq]; rfl : okD 16 s.data.toList = false)) hb)
        clear hq hb
        go_wp2_with (fail)
        go_ret
        exact ⟨by rw [HE.out.1]; rfl, HE.out.2⟩
      · have HE := Lib.hid (And.intro (chk_eq (by rw [HQ.out, hq]; rfl : okD 16 s.data.toList = false)) hb)
        clear hq hb
        go_wp2_with (fail)
        go_ret
        exact ⟨by rw [HE.out.1]; rfl, HE.out.2⟩
    have q3 : (t == 16) = false := by simp [h16]
    have HPA := Lib.hid (fun W => rParts_any t W)
    cases hf : formN t with
    | none =>
      have HE := Lib.hid (chk_eq (t := t) (l := s.data.toList) (b := false) (by unfold okD; rw [hd0, if_neg h1, if_neg h28, if_neg h16, hf]; rfl))
      rw [hf] at HPA
      clear hbig hll hs hd0 h1 h28 h16 hf
      go_enter Try.func77, Try.ntmps77
      go_wp2_with (fail)
      with_reducible refine (HPA.out _).mono ?_
      rintro e w2 ⟨rfl, rfl⟩
      clear HPA
      go_wp2_with (fail)
      go_ret
      exact ⟨by rw [HE.out]; rfl, Below.refl _ _⟩
    | some f =>
      have HQ := Lib.hid (And.intro (okD_form (l := s.data.toList) hf) (And.intro hf hd0))
      have HSP := Lib.hid (fun W => rSplit4_any t s hs W)
      rw [hf] at HPA
      clear hbig hll hs hd0 h1 h28 h16 hf
      go_enter Try.func77, Try.ntmps77
      go_wp2_with (fail)
      with_reducible refine (HPA.out _).mono ?_
      rintro e w2 ⟨rfl, rfl⟩
      clear HPA
      go_wp2_with (fail)
      with_reducible refine (HSP.out _).mono ?_
      rintro e w4 hpost
      clear HSP
      rcases hpost with ⟨hq, rfl, hb⟩ | ⟨ns, S1, r, A, c, b, hq, _, rfl, hbb, _, _, hb⟩
      · have HE := Lib.hid (And.intro (chk_eq (t := t) (l := s.data.toList) (b := false) (by rw [HQ.out.1, HQ.out.2.2, splitN_none HQ.out.2.1 hq]; rfl)) hb)
        clear hq hb
        go_wp2_with (fail)
        go_ret
        exact ⟨by rw [HE.out.1]; rfl, HE.out.2⟩
      · have hrl : r.data.toList.length = r.size := by simp
        cases b with
        | false =>
          have HE := Lib.hid (And.intro (chk_eq (t := t) (l := s.data.toList) (b := false) (by rw [HQ.out.1, HQ.out.2.2, splitN_some HQ.out.2.1 hq, hrl, if_neg (fun e => by have := hbb.2 e; cases this)]; rfl)) hb)
          clear hq hb hbb hrl
          go_wp2_with (fail)
          go_ret
          exact ⟨by rw [HE.out.1]; rfl, HE.out.2⟩
        | true =>
          have HE := Lib.hid (And.intro (chk_eq (t := t) (l := s.data.toList) (b := false) (by rw [HQ.out.1, HQ.out.2.2, splitN_some HQ.out.2.1 hq, hrl, if_pos (hbb.1 rfl)]; rfl)) hb)
          clear hq hb hbb hrl
          go_wp2_with (fail)
          go_ret
          exact ⟨by rw [HE.out.1]; rfl, HE.out.2⟩
  have hI : decide (4096 < (s.size : Int)) = false := by simp; omega
  have hd0 : decide (s.data.toList.length ≤ 4096) = true := by simp; omega
  by_cases h1 : t = 1
  · subst h1
    by_cases h4 : s.size = 4
    · have hI2 : ((s.size : Int) == 4) = true := by simp; omega
      have HE := Lib.hid (chk_eq (t := 1) (l := s.data.toList) (b := true) (by unfold okD; rw [hd0, if_pos rfl, hll, h4]; rfl))
      clear hbig hll hs hd0 h4
      go_enter Try.func77, Try.ntmps77
      go_wp2_with (fail)
      go_ret
      exact ⟨by rw [HE.out]; rfl, Below.refl _ _⟩
    · have hI2 : ((s.size : Int) == 4) = false := by simp; omega
      have HE := Lib.hid (chk_eq (t := 1) (l := s.data.toList) (b := false) (by unfold okD; rw [hd0, if_pos rfl, hll, decide_eq_false h4]; rfl))
      clear hbig hll hs hd0 h4
      go_enter Try.func77, Try.ntmps77
      go_wp2_with (fail)
      go_ret
      exact ⟨by rw [HE.out]; rfl, Below.refl _ _⟩
  have q1 : (t == 1) = false := by simp [h1]
  by_cases h28 : t = 28
  · subst h28
    by_cases h4 : s.size = 16
    · have hI2 : ((s.size : Int) == 16) = true := by simp; omega
      have HE := Lib.hid (chk_eq (t := 28) (l := s.data.toList) (b := true) (by unfold okD; rw [hd0, if_neg (by decide), if_pos rfl, hll, h4]; rfl))
      clear hbig hll hs hd0 h4 q1
      go_enter Try.func77, Try.ntmps77
      go_wp2_with (fail)
      go_ret
      exact ⟨by rw [HE.out]; rfl, Below.refl _ _⟩
    · have hI2 : ((s.size : Int) == 16) = false := by simp; omega
      have HE := Lib.hid (chk_eq (t := 28) (l := s.data.toList) (b := false) (by unfold okD; rw [hd0, if_neg (by decide), if_pos rfl, hll, decide_eq_false h4]; rfl))
      clear hbig hll hs hd0 h4 q1
      go_enter Try.func77, Try.ntmps77
      go_wp2_with (fail)
      go_ret
      exact ⟨by rw [HE.out]; rfl, Below.refl _ _⟩
  have q2 : (t == 28) = false := by simp [h28]
  by_cases h16 : t = 16
  · subst h16
    have HT := Lib.hid (rTexts_any s (by omega) w)
    have HQ : RowKit.Hid (okD 16 s.data.toList = (true && (textsN s.data.toList).isSome)) := Lib.hid (by unfold okD; rw [hd0, if_neg (by decide), if_neg (by decide), if_pos rfl])
    clear hbig hll hs hd0 q1 q2
    go_enter Try.func77, Try.ntmps77
    go_wp2_with (fail)
    with_reducible refine HT.out.mono ?_
    rintro e w2 hpost
    clear HT
    rcases hpost with ⟨hq, rfl, hb⟩ | ⟨ts, A, c, hq, rfl, _, _, hb⟩
    · have HE := Lib.hid (And.intro (chk_eq (by rw [HQ.out, hq]; rfl : okD 16 s.data.toList = false)) hb)
      clear hq hb
      go_wp2_with (fail)
      go_ret
      exact ⟨by rw [HE.out.1]; rfl, HE.out.2⟩
    · have HE := Lib.hid (And.intro (chk_eq (by rw [HQ.out, hq]; rfl : okD 16 s.data.toList = true)) hb)
      clear hq hb
      go_wp2_with (fail)
      go_ret
      exact ⟨by rw [HE.out.1]; rfl, HE.out.2⟩
  have q3 : (t == 16) = false := by simp [h16]
  have HPA := Lib.hid (fun W => rParts_any t W)
  cases hf : formN t with
  | none =>
    have HE := Lib.hid (chk_eq (t := t) (l := s.data.toList) (b := true) (by unfold okD; rw [hd0, if_neg h1, if_neg h28, if_neg h16, hf]; rfl))
    rw [hf] at HPA
    clear hbig hll hs hd0 h1 h28 h16 hf
    go_enter Try.func77, Try.ntmps77
    go_wp2_with (fail)
    with_reducible refine (HPA.out _).mono ?_
    rintro e w2 ⟨rfl, rfl⟩
    clear HPA
    go_wp2_with (fail)
    go_ret
    exact ⟨by rw [HE.out]; rfl, Below.refl _ _⟩
  | some f =>
    have HQ := Lib.hid (And.intro (okD_form (l := s.data.toList) hf) (And.intro hf hd0))
    have HSP := Lib.hid (fun W => rSplit4_any t s hs W)
    rw [hf] at HPA
    clear hbig hll hs hd0 h1 h28 h16 hf
    go_enter Try.func77, Try.ntmps77
    go_wp2_with (fail)
    with_reducible refine (HPA.out _).mono ?_
    rintro e w2 ⟨rfl, rfl⟩
    clear HPA
    go_wp2_with (fail)
    with_reducible refine (HSP.out _).mono ?_
    rintro e w4 hpost
    clear HSP
    rcases hpost with ⟨hq, rfl, hb⟩ | ⟨ns, S1, r, A, c, b, hq, _, rfl, hbb, _, _, hb⟩
    · have HE := Lib.hid (And.intro (chk_eq (t := t) (l := s.data.toList) (b := false) (by rw [HQ.out.1, HQ.out.2.2, splitN_none HQ.out.2.1 hq]; rfl)) hb)
      clear hq hb
      go_wp2_with (fail)
      go_ret
      exact ⟨by rw [HE.out.1]; rfl, HE.out.2⟩
    · have hrl : r.data.toList.length = r.size := by simp
      cases b with
      | false =>
        have HE := Lib.hid (And.intro (chk_eq (t := t) (l := s.data.toList) (b := false) (by rw [HQ.out.1, HQ.out.2.2, splitN_some HQ.out.2.1 hq, hrl, if_neg (fun e => by have := hbb.2 e; cases this)]; rfl)) hb)
        clear hq hb hbb hrl
        go_wp2_with (fail)
        go_ret
        exact ⟨by rw [HE.out.1]; rfl, HE.out.2⟩
      | true =>
        have HE := Lib.hid (And.intro (chk_eq (t := t) (l := s.data.toList) (b := true) (by rw [HQ.out.1, HQ.out.2.2, splitN_some HQ.out.2.1 hq, hrl, if_pos (hbb.1 rfl)]; rfl)) hb)
        clear hq hb hbb hrl
        go_wp2_with (fail)
        go_ret
        exact ⟨by rw [HE.out.1]; rfl, HE.out.2⟩
end Go.Proofs.Ythjkdpphbipgfaa
