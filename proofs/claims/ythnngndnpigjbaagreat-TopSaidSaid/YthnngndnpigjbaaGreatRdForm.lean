/- The walks of package rdata's formOf, first. Conditions: none. When data are right, and what they hold: plain. No program in sight. Conditions: none. -/
import Derived.Test.YthnngndnpigjbaaGreatLabelMath
import Derived.Test.YthnngndnpigjbaaGreatRes
import Derived.Test.YthnngndnpigjbaaGreatEnds
import Derived.Deep.DeepMust
import Derived.Outline
namespace Go.Proofs.YthnngndnpigjbaaGreat
open Go.RowKit Go.Lib

def formT (t : Int) : (Nat × Nat × Nat) × Bool := match formN t with
  | some f => (f, true)
  | none => ((0, 0, 0), false)
def formV (f : Nat × Nat × Nat) : Value := .agg #[.int .i64 (f.1 : Int), .int .i64 (f.2.1 : Int), .int .i64 (f.2.2 : Int)]
theorem form_cells : (Tryz.prog.info? 95).map (·.size) = some 3 := by kernel_rfl
def FormPost (t : Int) (w : World) (e : Ending) (w' : World) : Prop := e = .returned (.tuple #[formV (formT t).1, .bool (formT t).2]) ∧ Below w.heap.size w w'
theorem form_post {t : Int} {w w' : World} {tw nm fo : Nat} {b : Bool} (h : formT t = ((tw, nm, fo), b)) (hb : Below w.heap.size w w') {e : Ending} (he : e = .returned (.tuple #[.agg #[.int .i64 (tw : Int), .int .i64 (nm : Int), .int .i64 (fo : Int)], .bool b])) : FormPost t w e w' := by
  unfold FormPost
  rw [h]
  exact ⟨he, hb⟩
theorem t_other {t : Int} (h1 : t ≠ 2) (h2 : t ≠ 5) (h3 : t ≠ 12) (h4 : t ≠ 15) (h5 : t ≠ 33) (h6 : t ≠ 6) : formT t = ((0, 0, 0), false) := by
  unfold formT formN
  rw [if_neg (by omega), if_neg h4, if_neg h5, if_neg h6]

set_option maxRecDepth 100000 in
set_option maxHeartbeats 4000000 in
theorem formOf_any (t : Int) (w : World) : Calls Tryz.prog 65 #[.int .u16 t] w (FormPost t w) := by
  by_cases h1 : t = 2
  · subst h1
    go_enter Tryz.func65, Tryz.ntmps65
    go_wp2_with (fail)
    refine bodyPost_ret (res_ct rfl _ _ w.heap.size 95 #[.int .i64 0, .int .i64 1, .int .i64 0] _ rfl (Blk.new w _ _) Tryz.underlying95 rfl form_cells) rfl ?_
    exact form_post (tw := 0) (nm := 1) (fo := 0) (b := true) rfl ((Below.refl _ _).alloc (Nat.le_refl _) _) rfl
  by_cases h2 : t = 5
  · subst h2
    go_enter Tryz.func65, Tryz.ntmps65
    go_wp2_with (fail)
    refine bodyPost_ret (res_ct rfl _ _ w.heap.size 95 #[.int .i64 0, .int .i64 1, .int .i64 0] _ rfl (Blk.new w _ _) Tryz.underlying95 rfl form_cells) rfl ?_
    exact form_post (tw := 0) (nm := 1) (fo := 0) (b := true) rfl ((Below.refl _ _).alloc (Nat.le_refl _) _) rfl
  by_cases h3 : t = 12
  · subst h3
    go_enter Tryz.func65, Tryz.ntmps65
    go_wp2_with (fail)
    refine bodyPost_ret (res_ct rfl _ _ w.heap.size 95 #[.int .i64 0, .int .i64 1, .int .i64 0] _ rfl (Blk.new w _ _) Tryz.underlying95 rfl form_cells) rfl ?_
    exact form_post (tw := 0) (nm := 1) (fo := 0) (b := true) rfl ((Below.refl _ _).alloc (Nat.le_refl _) _) rfl
  by_cases h4 : t = 15
  · subst h4
    go_enter Tryz.func65, Tryz.ntmps65
    go_wp2_with (fail)
    refine bodyPost_ret (res_ct rfl _ _ w.heap.size 95 #[.int .i64 1, .int .i64 1, .int .i64 0] _ rfl (Blk.new w _ _) Tryz.underlying95 rfl form_cells) rfl ?_
    exact form_post (tw := 1) (nm := 1) (fo := 0) (b := true) rfl ((Below.refl _ _).alloc (Nat.le_refl _) _) rfl
  by_cases h5 : t = 33
  · subst h5
    go_enter Tryz.func65, Tryz.ntmps65
    go_wp2_with (fail)
    refine bodyPost_ret (res_ct rfl _ _ w.heap.size 95 #[.int .i64 3, .int .i64 1, .int .i64 0] _ rfl (Blk.new w _ _) Tryz.underlying95 rfl form_cells) rfl ?_
    exact form_post (tw := 3) (nm := 1) (fo := 0) (b := true) rfl ((Below.refl _ _).alloc (Nat.le_refl _) _) rfl
  by_cases h6 : t = 6
  · subst h6
    go_enter Tryz.func65, Tryz.ntmps65
    go_wp2_with (fail)
    refine bodyPost_ret (res_ct rfl _ _ w.heap.size 95 #[.int .i64 0, .int .i64 2, .int .i64 5] _ rfl (Blk.new w _ _) Tryz.underlying95 rfl form_cells) rfl ?_
    exact form_post (tw := 0) (nm := 2) (fo := 5) (b := true) rfl ((Below.refl _ _).alloc (Nat.le_refl _) _) rfl
  have q1 : (t == 2) = false := by simp [h1]
  have q2 : (t == 5) = false := by simp [h2]
  have q3 : (t == 12) = false := by simp [h3]
  have q4 : (t == 15) = false := by simp [h4]
  have q5 : (t == 33) = false := by simp [h5]
  have q6 : (t == 6) = false := by simp [h6]
  have HT := Lib.hid (t_other h1 h2 h3 h4 h5 h6)
  clear h1 h2 h3 h4 h5 h6
  go_enter Tryz.func65, Tryz.ntmps65
  go_wp2_with (fail)
  refine bodyPost_ret (res_ct rfl _ _ w.heap.size 95 #[.int .i64 0, .int .i64 0, .int .i64 0] _ rfl (Blk.new w _ _) Tryz.underlying95 rfl form_cells) rfl ?_
  exact form_post (tw := 0) (nm := 0) (fo := 0) (b := false) HT.out ((Below.refl _ _).alloc (Nat.le_refl _) _) rfl

theorem byte_get (s : ByteArray) (a : Nat) (h : a < s.size) : s.data.toList[a]? = some (s[a]'h) := by
  rw [List.getElem?_eq_getElem (by simpa using h)]; rfl
theorem first_no {l : Bs} {a : Nat} (hA : Along l a) (h : ¬ (a < l.length ∧ a < 255)) : nameLen l = 0 := by
  by_cases h0 : nameLen l = 0
  · exact h0
  · have h1 := along_lt hA (by omega)
    have h2 := nameLen_is (l := l) rfl (by omega)
    exact absurd ⟨h1.1, by omega⟩ h
theorem first_bad {l : Bs} {a : Nat} (hA : Along l a) (hz : l[a]? = some 0) (h : isName (l.take (a + 1)) = false) : nameLen l = 0 := by
  by_cases h0 : nameLen l = 0
  · exact h0
  · have h1 := along_zero hA (by omega) hz
    have h2 := nameLen_is (l := l) rfl (by omega)
    rw [h1, h2.2.2.1] at h
    cases h

set_option maxRecDepth 100000 in
set_option maxHeartbeats 4000000 in
theorem first_any (s : ByteArray) (hs : s.size ≤ 140737488355328) (w : World) : Calls Tryz.prog 81 #[.string s] w fun e w' => e = .returned (.int .i64 (nameLen s.data.toList : Int)) ∧ Below w.heap.size w w' := by
  have hsI : (s.size : Int) ≤ 140737488355328 := by omega
  obtain ⟨l, hl⟩ : ∃ l, s.data.toList = l := ⟨_, rfl⟩
  have hll : l.length = s.size := by rw [← hl]; simp
  have HL := Lib.hid (And.intro hl hll)
  rw [hl]
  clear hs hl hll
  go_enter Tryz.func81, Tryz.ntmps81
  go_wp2_with (fail)
  go_loopg [3] 600 (fun gg v3 wr => ∃ a : Nat, v3 = .int .i64 (a : Int) ∧ wr = w ∧ Aside (gg = 600 - a ∧ a ≤ 511 ∧ Along l a))
  case atStart => exact ⟨0, rfl, rfl, rfl, by decide, along_start l⟩
  case round =>
    obtain ⟨a, rfl, rfl, hA⟩ := hrel
    by_cases ha : a < s.size
    · have haI : (a : Int) < (s.size : Int) := by omega
      by_cases ha2 : a < 255
      · have haI2 : (a : Int) < 255 := by omega
        obtain ⟨k, hk⟩ : ∃ k : Nat, (s[a]'ha).toNat = k := ⟨_, rfl⟩
        have hget : l[a]? = some (s[a]'ha) := by rw [← HL.out.1]; exact byte_get s a ha
        have hk255 : k ≤ 255 := by rw [← hk]; have := (s[a]'ha).toNat_lt; omega
        by_cases hk0 : k = 0
        · have hkb : ((k : Int) == 0) = true := by simp [hk0]
          have hz : l[a]? = some 0 := by rw [hget]; congr 1; exact UInt8.toNat_inj.1 (show (s[a]'ha).toNat = (0 : UInt8).toNat by rw [hk, hk0]; rfl)
          obtain ⟨S, hS⟩ : ∃ S, s.extract 0 (a + 1) = S := ⟨_, rfl⟩
          have hsl : ∀ W : World, (Instr.slice 9 (.string s) none (some (.int .i64 ((a : Int) + 1))) none).run Tryz.prog W = .ok (.string S) W := fun W => by
            have := run_slice_string_h (P := Tryz.prog) (w := W) (t := 9) (s := s) Tryz.underlying9 .i64 ((a : Int) + 1) (by omega) (by omega)
            rw [this, ← hS]
            congr 3
          have hSd : S.data.toList = l.take (a + 1) := by rw [← hS, ← HL.out.1]; simp
          have hSz : S.size ≤ maxLen := by
            have h1 : S.data.toList.length = S.size := by simp
            rw [hSd, List.length_take] at h1
            unfold maxLen; omega
          have HCK := Lib.hid (fun W => Check_any S hSz W)
          rw [hSd] at HCK
          cases hn : isName (l.take (a + 1)) with
          | true =>
            have hc : chkN (l.take (a + 1)) = 0 := by unfold chkN; rw [if_pos hn]
            have hr := nameLen_take (by rw [HL.out.2]; omega) hn
            rw [hc] at HCK
            have HR := Lib.hid hr
            clear hS hSd hSz hn hc hr hz hget
            go_wp2_with (fail)
            with_reducible refine (HCK.out _).mono ?_
            rintro e w1 ⟨rfl, hb⟩
            have HB := Lib.hid hb
            clear hb
            go_wp2_with (fail)
            go_ret
            exact ⟨by rw [HR.out]; rfl, HB.out⟩
          | false =>
            have hc : chkN (l.take (a + 1)) = 2 := by unfold chkN; rw [if_neg (by rw [hn]; decide)]
            have hr := first_bad hA.out.2.2 hz hn
            rw [hc] at HCK
            have HR := Lib.hid hr
            clear hS hSd hSz hn hc hr hz hget
            go_wp2_with (fail)
            with_reducible refine (HCK.out _).mono ?_
            rintro e w1 ⟨rfl, hb⟩
            have HB := Lib.hid hb
            clear hb
            go_wp2_with (fail)
            go_ret
            exact ⟨by rw [HR.out]; rfl, HB.out⟩
        · have hkb : ((k : Int) == 0) = false := by simp [hk0]
          have hst := along_step hA.out.2.2 hget (fun e => hk0 (by rw [← hk, e]; rfl))
          rw [hk] at hst
          have HE := Lib.hid (And.intro hst (And.intro hk0 (And.intro hk255 ha2)))
          clear hst hget hk0 ha2
          go_wp2_with (fail)
          go_roundg (600 - (a + (1 + k)))
          case measure => have := hA.out; have := HE.out; omega
          case rel => exact ⟨a + (1 + k), by go_num, rfl, rfl, by have := HE.out; omega, HE.out.1⟩
      · have haI2 : ¬ (a : Int) < 255 := by omega
        have HR := Lib.hid (first_no hA.out.2.2 (fun h => ha2 h.2))
        clear ha ha2
        go_wp2_with (fail)
        go_ret
        exact ⟨by rw [HR.out]; rfl, Below.refl _ _⟩
    · have haI : ¬ (a : Int) < (s.size : Int) := by omega
      have HR := Lib.hid (first_no hA.out.2.2 (fun h => ha (by rw [← HL.out.2]; exact h.1)))
      clear ha
      go_wp2_with (fail)
      go_ret
      exact ⟨by rw [HR.out]; rfl, Below.refl _ _⟩
end Go.Proofs.YthnngndnpigjbaaGreat

namespace Go.Proofs.YthnngndnpigjbaaGreat
open Go.RowKit Go.Lib

theorem okD_len4 {l : Bs} (h : okD 1 l = true) : l.length = 4 := by
  unfold okD at h
  rw [if_pos rfl] at h
  simp at h
  exact h.2
theorem okD_soa {l : Bs} (h : okD 6 l = true) : 4 ≤ l.length ∧ l.length ≤ 4096 := by
  unfold okD at h
  rw [if_neg (by decide), if_neg (by decide), if_neg (by decide), Bool.and_eq_true] at h
  have hf : formN 6 = some (0, 2, 5) := rfl
  rw [hf] at h
  obtain ⟨h1, h2⟩ := h
  dsimp only at h2
  cases hq : cutN (0, 2, 5) l with
  | none => rw [hq] at h2; cases h2
  | some p =>
    have := cutN_len hq
    have h3 := congrArg List.length this.1
    simp only [List.length_append] at h3
    have h4 := this.2.2.2.1
    dsimp only at h4
    exact ⟨by omega, by simpa using h1⟩
theorem chk_ok {t : Int} {l : Bs} (h : okD t l = true) : chkD t l = 0 := by unfold chkD; rw [if_pos h]
theorem chk_no {t : Int} {l : Bs} (h : okD t l = false) : chkD t l = 2 := by unfold chkD; rw [if_neg (by rw [h]; decide)]
theorem okD_txt {l : Bs} (h : okD 16 l = true) : l.length ≤ 4096 ∧ ∃ ts, textsN l = some ts := by
  unfold okD at h
  rw [if_neg (by decide), if_neg (by decide), if_pos rfl, Bool.and_eq_true] at h
  exact ⟨by simpa using h.1, Option.isSome_iff_exists.1 h.2⟩
end Go.Proofs.YthnngndnpigjbaaGreat
