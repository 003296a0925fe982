/- The walks of the references: hardtackref01's Check and Fold, hardtackref41's letters, Mix, Letters, Bits, Exact. -/
import Derived.Test.YtjhhhkhcnohmiaaRef01
import Derived.Test.YtjhhhkhcnohmiaaMixBack
import Derived.Test.YtjhhhkhcnohmiaaMixLaw2
namespace Go.Proofs.Ytjhhhkhcnohmiaa
open Go.RowKit

/-! Plain -/
/-- As the reference mixes: small letters, and 32 off where a bit says so. -/
def outR (d : Nat) (l : Bs) (pre : List (Nat × Nat)) : Bs := pre.foldl (fun o x => if bitN d x.2 = true then o.set x.1 (at0 o x.1 - 32) else o) (foldB l)
theorem outR_snoc (d : Nat) (l : Bs) (pre : List (Nat × Nat)) (x : Nat × Nat) : outR d l (pre ++ [x]) = if bitN d x.2 = true then (outR d l pre).set x.1 (at0 (outR d l pre) x.1 - 32) else outR d l pre := by simp [outR]
theorem outR_length (d : Nat) (l : Bs) : ∀ pre : List (Nat × Nat), (outR d l pre).length = l.length := by
  intro pre
  generalize hn : pre.length = n
  induction n generalizing pre with
  | zero =>
    have : pre = [] := List.eq_nil_of_length_eq_zero hn
    subst this; exact foldB_length l
  | succ n ih =>
    rcases List.eq_nil_or_concat pre with rfl | ⟨p, x, rfl⟩
    · exact foldB_length l
    · rw [List.concat_eq_append, outR_snoc]
      have h := ih p (by simp at hn; exact hn)
      split
      · rw [List.length_set]; exact h
      · exact h
theorem outR_at (d : Nat) (l : Bs) : ∀ (i p : Nat), i ≤ l.length → at0 (outR d l (lp l i)) p = if letB (at0 l p) = true ∧ p < i ∧ bitN d (lp l p).length = true then lowB (at0 l p) - 32 else lowB (at0 l p)
  | 0, p, _ => by rw [if_neg (by omega)]; exact at0_fold l p
  | i + 1, p, hi => by
    have ih := outR_at d l i
    cases hb : letB (at0 l i)
    · rw [lp_no hb, ih p (by omega)]
      by_cases hp : p = i
      · subst hp
        rw [if_neg (by rw [hb]; simp), if_neg (by rw [hb]; simp)]
      · by_cases h2 : letB (at0 l p) = true ∧ p < i ∧ bitN d (lp l p).length = true
        · rw [if_pos h2, if_pos ⟨h2.1, by omega, h2.2.2⟩]
        · rw [if_neg h2, if_neg (fun h3 => h2 ⟨h3.1, by omega, h3.2.2⟩)]
    · rw [lp_yes hb, outR_snoc]
      dsimp only
      by_cases hp : i = p
      · subst hp
        by_cases hbit : bitN d (lp l i).length = true
        · rw [if_pos hbit, at0_set, outR_length, if_pos ⟨rfl, by omega⟩, if_pos ⟨hb, by omega, hbit⟩, ih i (by omega), if_neg (by omega)]
        · rw [if_neg hbit, if_neg (fun h3 => hbit h3.2.2), ih i (by omega), if_neg (by omega)]
      · by_cases hbit : bitN d (lp l i).length = true
        · rw [if_pos hbit, at0_set, if_neg (fun h3 => hp h3.1), ih p (by omega)]
          by_cases h2 : letB (at0 l p) = true ∧ p < i ∧ bitN d (lp l p).length = true
          · rw [if_pos h2, if_pos ⟨h2.1, by omega, h2.2.2⟩]
          · rw [if_neg h2, if_neg (fun h3 => h2 ⟨h3.1, by omega, h3.2.2⟩)]
        · rw [if_neg hbit, ih p (by omega)]
          by_cases h2 : letB (at0 l p) = true ∧ p < i ∧ bitN d (lp l p).length = true
          · rw [if_pos h2, if_pos ⟨h2.1, by omega, h2.2.2⟩]
          · rw [if_neg h2, if_neg (fun h3 => h2 ⟨h3.1, by omega, h3.2.2⟩)]
theorem mixB_t (c : UInt8) (h : letB c = true) : mixB true c = lowB c - 32 := by
  have := all_bytes (p := fun c => !letB c || (mixB true c == lowB c - 32)) (by decide +kernel) c
  simpa [h] using this
theorem mixB_f (c : UInt8) (h : letB c = true) : mixB false c = lowB c := by
  have := all_bytes (p := fun c => !letB c || (mixB false c == lowB c)) (by decide +kernel) c
  simpa [h] using this
theorem lowB_no (c : UInt8) (h : letB c = false) : lowB c = c := by
  have := all_bytes (p := fun c => letB c || (lowB c == c)) (by decide +kernel) c
  simpa [h] using this
theorem low_sub (c : UInt8) (h : letB c = true) : (lowB c - 32).toNat + 32 = (lowB c).toNat := by
  have := all_bytes (p := fun c => !letB c || ((lowB c - 32).toNat + 32 == (lowB c).toNat)) (by decide +kernel) c
  simpa [h] using this
theorem great_le (c : UInt8) (h : letB c = true) : great c = decide (c.toNat ≤ 90) := by
  have := all_bytes (p := fun c => !letB c || (great c == decide (c.toNat ≤ 90))) (by decide +kernel) c
  simpa [h] using this
theorem outR_mix {d : Nat} {l : Bs} (hn : isName l = true) : outR d l (letL l) = mixL d l := by
  apply eq_of_at0
  · rw [outR_length, mixL_length]
  · intro p hp
    rw [outR_length] at hp
    rw [mix_at hn hp]
    unfold letL
    rw [if_pos hn, outR_at d l l.length p (Nat.le_refl _)]
    by_cases h : letB (at0 l p) = true
    · rw [if_pos h]
      cases hb : bitN d (lp l p).length
      · rw [if_neg (by simp), mixB_f _ h]
      · rw [if_pos ⟨h, hp, rfl⟩, mixB_t _ h]
    · rw [if_neg h, if_neg (fun h2 => h h2.1), lowB_no _ (by simpa using h)]
/-- What lies at a letter that comes next. -/
theorem outR_next {d : Nat} {l : Bs} (hn : isName l = true) {k : Nat} (hk : k < (letL l).length) : ∃ p, (letL l)[k] = (p, k) ∧ p < l.length ∧ letB (at0 l p) = true ∧ at0 (outR d l ((letL l).take k)) p = lowB (at0 l p) := by
  have hL : letL l = lp l l.length := by unfold letL; rw [if_pos hn]
  obtain ⟨p, hp, hb, hlen⟩ := lp_pos l l.length k (by rw [← hL]; exact hk)
  have hpre : lp l p <+: letL l := by rw [hL]; exact lp_prefix l (by omega)
  have htk : (letL l).take k = lp l p := by rw [← hlen]; exact (List.prefix_iff_eq_take.1 hpre).symm
  have hpre2 : lp l (p + 1) <+: letL l := by rw [hL]; exact lp_prefix l (by omega)
  refine ⟨p, ?_, hp, hb, ?_⟩
  · rw [lp_yes hb, hlen] at hpre2
    obtain ⟨suf, hs⟩ := hpre2
    have : (letL l)[k]? = some (p, k) := by
      rw [← hs, List.append_assoc, List.getElem?_append_right (by omega), hlen]; simp
    exact (List.getElem?_eq_some_iff.1 this).2
  · rw [htk, outR_at d l p p (by omega), if_neg (by omega)]
/-- The places, as numbers in memory. -/
def ints (L : List (Nat × Nat)) : List Value := L.map fun x => .int .i64 (x.1 : Int)
theorem ints_snoc (L : List (Nat × Nat)) (x : Nat × Nat) : ints (L ++ [x]) = ints L ++ [.int .i64 (x.1 : Int)] := by simp [ints]

/-! The walks -/
set_option maxRecDepth 100000 in
theorem rCheck_any (s : ByteArray) (hs : s.size ≤ maxLen) (w : World) : Calls Try.prog 51 #[.string s] w fun e w' => e = .returned (.int .i64 (chkN s.data.toList)) ∧ Below w.heap.size w w' := by
  have H := Lib.hid (rSplit_any s hs w)
  have hcase := chk_cases s.data.toList
  rcases hcase with ⟨h1, h2⟩ | ⟨h1, h2⟩
  all_goals
    rw [h2]
    have H1 := Lib.hid h1
    clear h1 h2 hs
    go_enter Try.func51, Try.ntmps51
    go_wp2_with (fail)
    with_reducible refine (H.out).mono ?_
    rintro e w1 ⟨v, rfl, ⟨A, n, c, rfl⟩, _, hb⟩
    rw [H1.out]
    go_wp2_with (fail)
    go_ret
    exact ⟨rfl, hb⟩

set_option maxHeartbeats 1000000 in
set_option maxRecDepth 100000 in
theorem rFold_any (s : ByteArray) (hs : s.size ≤ 9223372036854775807) (w : World) :
    Calls Try.prog 52 #[.string s] w fun e w' => e = .returned (.string ⟨(foldB s.data.toList).toArray⟩) ∧ Below w.heap.size w w' := by
  have hcv := fun w : World => run_bytes_of_string (P := Try.prog) w _ _ _ s Try.underlying9 Try.underlying57 Try.underlying5
  have hs1 : (s.size : Int) ≤ 9223372036854775807 := by omega
  go_enter Try.func52, Try.ntmps52
  go_wp2_with (fail)
  have hsz : s.data.toList.length = s.size := by simp
  have HB0 : Below w.heap.size w (w.alloc (.cells (bytesRow s (grownCap w s.size 0 5)) 5 ((bytesRow s (grownCap w s.size 0 5)).size, (bytesRow s (grownCap w s.size 0 5)).size + 1))).drew := ((Below.refl _ _).alloc (Nat.le_refl _) _).drew
  have hR0 := byR_new w s (grownCap w s.size 0 5)
  generalize grownCap w s.size 0 5 = cap at HB0 hR0 ⊢
  have HS := Lib.hid hsz
  clear hcv hsz
  go_loopg [10] s.size (fun g i wr => ∃ k : Nat, g + k = s.size ∧ i = .int .i64 (k : Int) ∧ ByR wr w.heap.size (foldTo s.data.toList k) ∧ Below w.heap.size w wr)
  case atStart => exact ⟨0, by omega, rfl, by rw [foldTo_zero]; exact hR0, HB0⟩
  case round =>
    obtain ⟨k, hk, rfl, hB, hb⟩ := hrel
    clear hR0 HB0
    by_cases hlt : k < s.size
    · obtain ⟨c, hc⟩ : ∃ c, s.data.toList[k]? = some c := ⟨_, List.getElem?_eq_getElem (by have := HS.out; omega)⟩
      have hki : (k : Int) < (s.size : Int) := by omega
      have c0 := hB.cell (foldTo_at hc)
      have f0 := hB.frozen (j := k) (by rw [foldTo_length]; have := HS.out; omega)
      have hc255 := c.toNat_lt
      have HC := Lib.hid hc
      clear hc
      by_cases h65 : 65 ≤ c.toNat ∧ c.toNat ≤ 90
      · have h1 : (65 : Int) ≤ (c.toNat : Int) := by omega
        have h2 : (c.toNat : Int) ≤ 90 := by omega
        have hlow : ((lowB c).toNat : Int) = (c.toNat : Int) + 32 := by rw [lowB_toNat, if_pos h65]; omega
        have HLo := Lib.hid hlow
        clear hlow h65
        go_wp2_with (fail)
        go_roundg (s.size - (k + 1))
        case measure => omega
        case rel =>
          refine ⟨k + 1, by omega, by go_num, ?_, hb.setCell (p := ⟨w.heap.size, k, none⟩) (Nat.le_refl _) _⟩
          have h3 := hB.set_ k (lowB c)
          rw [foldTo_succ HC.out, HLo.out] at h3
          exact h3
      · have hlow : lowB c = c := by unfold lowB; rw [if_neg h65]
        have HLo := Lib.hid hlow
        have hT : ¬ (65 : Int) ≤ (c.toNat : Int) ∨ ((65 : Int) ≤ (c.toNat : Int) ∧ ¬ (c.toNat : Int) ≤ 90) := by omega
        clear hlow h65
        rcases hT with h1 | ⟨h1, h2⟩
        all_goals
          go_wp2_with (fail)
          go_roundg (s.size - (k + 1))
          case measure => omega
          case rel => exact ⟨k + 1, by omega, by go_num, by rw [← foldTo_same HC.out HLo.out]; exact hB, hb⟩
    · obtain rfl : k = s.size := by omega
      have hst := hB.str (P := Try.prog) (src := 57) (dst := 9) cap Try.underlying57 Try.underlying5 Try.underlying9
      rw [foldTo_length, HS.out, show foldTo s.data.toList s.size = foldB s.data.toList by rw [← HS.out, foldTo_all]] at hst
      clear hlt
      go_wp2_with (fail)
      go_ret
      exact ⟨rfl, hb⟩
end Go.Proofs.Ytjhhhkhcnohmiaa
