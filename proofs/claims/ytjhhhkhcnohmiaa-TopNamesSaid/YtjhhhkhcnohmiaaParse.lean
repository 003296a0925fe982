/- The walks of package label's Parse and tell. -/
import Derived.Test.YtjhhhkhcnohmiaaJoin
namespace Go.Proofs.Ytjhhhkhcnohmiaa
open Go.RowKit Go.Lib

/-- What Parse answers. -/
def parseP (t : Bs) : Bs × Int :=
  if 2048 < t.length then ([], 7) else if t = [46] then ([0], 0) else if (cutR t).2 = false then ([], 6) else if (joinP [0] (cutR t).1).2 ≠ 0 then ([], 7) else ((joinP [0] (cutR t).1).1, 0)
theorem cutR_len (t : Bs) : (cutR t).1.length ≤ t.length := by
  unfold cutR
  cases h : cutG t [] [] with
  | none => simp [cutE]
  | some x =>
    obtain ⟨lab, ls⟩ := x
    have := (cutG_size _ t [] [] (Nat.le_refl _) lab ls h).2
    unfold cutE
    dsimp only
    simp at this
    split
    · simp; omega
    · rename_i hne
      have : 0 < lab.length := List.length_pos_iff.2 hne
      simp
      omega

set_option maxRecDepth 100000 in
set_option maxHeartbeats 4000000 in
theorem Parse_any (t : ByteArray) (ht : t.size ≤ maxLen) (w : World) : Calls Try.prog 48 #[.string t] w fun e w' => e = .returned (.tuple #[.string ⟨(parseP t.data.toList).1.toArray⟩, .int .i64 (parseP t.data.toList).2]) ∧ Below w.heap.size w w' := by
  obtain ⟨x, hx⟩ : ∃ x, parseP t.data.toList = x := ⟨_, rfl⟩
  have hlen : t.data.toList.length = t.size := by simp
  rw [hx]
  unfold parseP at hx
  rw [hlen] at hx
  unfold maxLen at ht
  have htI : (t.size : Int) ≤ 9223372036854775807 := by omega
  by_cases h1 : 2048 < t.size
  · rw [if_pos h1] at hx
    have e1 : (2048 : Int) < (t.size : Int) := by omega
    subst hx
    clear ht hlen h1
    go_enter Try.func48, Try.ntmps48
    go_wp2_with (fail)
    go_ret2
    exact ⟨rfl, Below.refl _ _⟩
  · rw [if_neg h1] at hx
    have e1 : ¬ (2048 : Int) < (t.size : Int) := by omega
    by_cases h2 : t.data.toList = [46]
    · rw [if_pos h2] at hx
      have : t = ⟨#[46]⟩ := by
        apply ByteArray.ext
        apply Array.toList_inj.1
        exact h2
      subst this hx
      clear ht hlen h1 h2
      go_enter Try.func48, Try.ntmps48
      go_wp2_with (fail)
      go_ret2
      exact ⟨rfl, Below.refl _ _⟩
    · rw [if_neg h2] at hx
      have e2 : (t.toList == [46]) = false := by rw [ByteArray.toList_eq, beq_eq_false_iff_ne]; exact h2
      have hC := cut_any t (by omega) w
      have hcl := cutR_len t.data.toList
      rw [hlen] at hcl
      obtain ⟨y, hy⟩ : ∃ y, cutR t.data.toList = y := ⟨_, rfl⟩
      rw [hy] at hx hC hcl
      obtain ⟨ls, ok⟩ := y
      dsimp only at hx hcl
      have HX := Lib.hid hx
      have HC := Lib.hid hC
      have HL := Lib.hid (show ls.length ≤ 1000000 from by omega)
      clear hx hC hy hcl ht hlen h1 h2
      cases ok with
      | false =>
        have hx2 := HX.out
        rw [if_pos rfl] at hx2
        have HX2 := Lib.hid hx2
        clear hx2
        go_enter Try.func48, Try.ntmps48
        go_wp2_with (fail)
        refine HC.out.mono ?_
        rintro e w1 ⟨A, c, rfl, _, _, hb⟩
        have HB := Lib.hid hb
        clear hb
        go_wp2_with (fail)
        go_ret2
        rw [← HX2.out]
        exact ⟨rfl, HB.out⟩
      | true =>
        go_enter Try.func48, Try.ntmps48
        go_wp2_with (fail)
        refine HC.out.mono ?_
        rintro e w1 ⟨A, c, rfl, hs, _, hb⟩
        have HB := Lib.hid hb
        have hsl : (strs ls).length = ls.length := by simp [strs]
        have hs' : TTab w1 A (strs ls) := by
          have h := hs
          dsimp only at h
          rw [← hsl] at h
          exact ttab_of_sl h
        have HJ := Lib.hid (Join_any ⟨#[0]⟩ (by decide) A c ls w1 hs' HL.out)
        have hx2 := HX.out
        rw [if_neg (by simp)] at hx2
        obtain ⟨y, hy⟩ : ∃ y, joinP [0] ls = y := ⟨_, rfl⟩
        have HJ2 : Calls Try.prog 61 #[.string ⟨#[0]⟩, .slice A ls.length c] w1 fun e w' => e = .returned (.tuple #[.string ⟨y.1.toArray⟩, .int .i64 y.2]) ∧ Below w1.heap.size w1 w' := by rw [← hy]; exact HJ.out
        rw [hy] at hx2
        obtain ⟨y1, y2⟩ := y
        have HJ3 := Lib.hid HJ2
        dsimp only at hx2
        clear hs hs' hsl hb HJ HJ2 hy HC
        by_cases hz : y2 = 0
        · subst hz
          rw [if_neg (by simp)] at hx2
          have HX2 := Lib.hid hx2
          clear hx2
          go_wp2_with (fail)
          refine HJ3.out.mono ?_
          rintro e w2 ⟨rfl, hb⟩
          have HB2 := Lib.hid (HB.out.trans (hb.mono HB.out.size))
          clear hb
          go_wp2_with (fail)
          go_ret2
          rw [← HX2.out]
          exact ⟨rfl, HB2.out⟩
        · rw [if_pos hz] at hx2
          have HX2 := Lib.hid hx2
          have e5 : (y2 != 0) = true := by simpa using hz
          clear hx2 hz
          go_wp2_with (fail)
          refine HJ3.out.mono ?_
          rintro e w2 ⟨rfl, hb⟩
          have HB2 := Lib.hid (HB.out.trans (hb.mono HB.out.size))
          clear hb
          go_wp2_with (fail)
          go_ret2
          rw [← HX2.out]
          exact ⟨rfl, HB2.out⟩

/-- A byte of a label as it stands in a text. -/
def tellB (c : UInt8) : Bs := if c = 46 ∨ c = 92 then [92, c] else if 33 ≤ c.toNat ∧ c.toNat ≤ 126 then [c] else [92, UInt8.ofNat (48 + c.toNat / 100), UInt8.ofNat (48 + c.toNat / 10 % 10), UInt8.ofNat (48 + c.toNat % 10)]
theorem tellB_len (c : UInt8) : (tellB c).length ≤ 4 := by
  unfold tellB
  split
  · simp
  · split <;> simp
theorem bWB {K : Nat → Prop} {w : World} {b : Nat} {l : List UInt8} (z : Int) (n : Nat) (hz : z = (n : Int)) (hn : n < 256) (h : Bd K w b l) (hl : l.length + 1 ≤ 140737488355328) :
    Calls Try.prog 75 #[.pointer (some ⟨b, 0, none⟩), .int .u8 z] w fun e w' => e = .returned .nilIface ∧ Bd K w' b (l ++ [UInt8.ofNat n]) ∧ KeepK K w w' := by
  have := bWriteByte_any (UInt8.ofNat n) h hl
  rw [show ((UInt8.ofNat n).toNat : Int) = z from by rw [UInt8.toNat_ofNat']; omega] at this
  exact this
theorem eq_beq8 (c : UInt8) (n : Nat) (hn : n < 256) : (((c.toNat : Int) == (n : Int)) = true) ↔ c = UInt8.ofNat n := by
  rw [beq_iff_eq]
  constructor
  · intro h
    apply UInt8.toNat_inj.1
    rw [UInt8.toNat_ofNat']
    omega
  · rintro rfl
    rw [UInt8.toNat_ofNat']
    omega

set_option maxRecDepth 100000 in
set_option maxHeartbeats 4000000 in
theorem tell_any {K : Nat → Prop} {w : World} {b : Nat} {l : List UInt8} (c : UInt8) (h : Bd K w b l) (hl : l.length + 4 ≤ 140737488355328) :
    Calls Try.prog 74 #[.pointer (some ⟨b, 0, none⟩), .int .u8 (c.toNat : Int)] w fun e w' => e = .returned (.tuple #[]) ∧ Bd K w' b (l ++ tellB c) ∧ KeepK K w w' := by
  have H := Lib.hid (And.intro h hl)
  have hcI : (c.toNat : Int) ≤ 255 := by have := c.toNat_lt; omega
  have hc0 : (0 : Int) ≤ (c.toNat : Int) := by omega
  clear h hl
  have q46 := eq_beq8 c 46 (by omega)
  have q92 := eq_beq8 c 92 (by omega)
  by_cases h1 : c = 46 ∨ c = 92
  · have ht : tellB c = [92, c] := if_pos h1
    rw [ht]
    have hcase : ((c.toNat : Int) == 46) = true ∨ (((c.toNat : Int) == 46) = false ∧ ((c.toNat : Int) == 92) = true) := by
      by_cases hd : c = 46
      · exact .inl (q46.2 hd)
      · refine .inr ⟨?_, q92.2 (h1.resolve_left hd)⟩
        rw [Bool.eq_false_iff]; exact fun h => hd (q46.1 h)
    clear q46 q92 h1 ht
    rcases hcase with r1 | ⟨r1, r2⟩
    all_goals
      go_enter Try.func74, Try.ntmps74
      go_wp2_with (fail)
      refine (bWB 92 92 rfl (by omega) H.out.1 (by have := H.out.2; omega)).mono ?_
      rintro e w1 ⟨rfl, h1, h2⟩
      have H1 := Lib.hid (And.intro h1 h2)
      clear h1 h2
      go_wp2_with (fail)
      refine (bWriteByte_any c H1.out.1 (by have := H.out.2; simp; omega)).mono ?_
      rintro e w2 ⟨rfl, h1, h2⟩
      have H2 := Lib.hid (And.intro h1 h2)
      clear h1 h2
      go_wp2_with (fail)
      refine bodyPost_end (results_none rfl _ _ _) rfl ?_
      have h7 := H2.out.1
      rw [List.append_assoc] at h7
      exact ⟨rfl, h7, H1.out.2.trans H2.out.2⟩
  · have r1 : ((c.toNat : Int) == 46) = false := by rw [Bool.eq_false_iff]; exact fun h => h1 (.inl (q46.1 h))
    have r2 : ((c.toNat : Int) == 92) = false := by rw [Bool.eq_false_iff]; exact fun h => h1 (.inr (q92.1 h))
    by_cases h2 : 33 ≤ c.toNat ∧ c.toNat ≤ 126
    · have ht : tellB c = [c] := by unfold tellB; rw [if_neg h1, if_pos h2]
      rw [ht]
      have r3 : (33 : Int) ≤ (c.toNat : Int) := by omega
      have r4 : (c.toNat : Int) ≤ 126 := by omega
      clear q46 q92 h1 h2 ht
      go_enter Try.func74, Try.ntmps74
      go_wp2_with (fail)
      refine (bWriteByte_any c H.out.1 (by have := H.out.2; omega)).mono ?_
      rintro e w1 ⟨rfl, h1, h2⟩
      have H1 := Lib.hid (And.intro h1 h2)
      clear h1 h2
      go_wp2_with (fail)
      refine bodyPost_end (results_none rfl _ _ _) rfl ?_
      exact ⟨rfl, H1.out.1, H1.out.2⟩
    · have ht : tellB c = [92, UInt8.ofNat (48 + c.toNat / 100), UInt8.ofNat (48 + c.toNat / 10 % 10), UInt8.ofNat (48 + c.toNat % 10)] := by unfold tellB; rw [if_neg h1, if_neg h2]
      rw [ht]
      have hcase : ¬ (33 : Int) ≤ (c.toNat : Int) ∨ ((33 : Int) ≤ (c.toNat : Int) ∧ ¬ (c.toNat : Int) ≤ 126) := by omega
      have HC := Lib.hid (show c.toNat ≤ 255 from by omega)
      clear q46 q92 h1 h2 ht
      rcases hcase with r3 | ⟨r3, r4⟩
      all_goals
        go_enter Try.func74, Try.ntmps74
        go_wp2_with (fail)
        refine (bWB 92 92 rfl (by omega) H.out.1 (by have := H.out.2; omega)).mono ?_
        rintro e w1 ⟨rfl, h1, h2⟩
        have H1 := Lib.hid (And.intro h1 h2)
        clear h1 h2
        go_wp2_with (fail)
        refine (bWB _ (48 + c.toNat / 100) (by omega) (by have := HC.out; omega) H1.out.1 (by have := H.out.2; simp; omega)).mono ?_
        rintro e w2 ⟨rfl, h1, h2⟩
        have H2 := Lib.hid (And.intro h1 h2)
        clear h1 h2
        go_wp2_with (fail)
        refine (bWB _ (48 + c.toNat / 10 % 10) (by omega) (by have := HC.out; omega) H2.out.1 (by have := H.out.2; simp; omega)).mono ?_
        rintro e w3 ⟨rfl, h1, h2⟩
        have H3 := Lib.hid (And.intro h1 h2)
        clear h1 h2
        go_wp2_with (fail)
        refine (bWB _ (48 + c.toNat % 10) (by omega) (by have := HC.out; omega) H3.out.1 (by have := H.out.2; simp; omega)).mono ?_
        rintro e w4 ⟨rfl, h1, h2⟩
        have H4 := Lib.hid (And.intro h1 h2)
        clear h1 h2
        go_wp2_with (fail)
        refine bodyPost_end (results_none rfl _ _ _) rfl ?_
        have h7 := H4.out.1
        simp only [List.append_assoc, List.cons_append, List.nil_append] at h7
        exact ⟨rfl, h7, ((H1.out.2.trans H2.out.2).trans H3.out.2).trans H4.out.2⟩
end Go.Proofs.Ytjhhhkhcnohmiaa
