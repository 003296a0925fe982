/- Plain laws of mixing: the bits of a draw; no program in sight. Conditions: none. -/
import Derived.Test.YtenmhfhnhfhooaaDoorMixLaw
namespace Go.Proofs.YtenmhfhnhfhooaaDoor

/-- As many ones as letters, 64 at most. -/
def maskN (k : Nat) : Nat := 2 ^ (min k 64) - 1
theorem maskN_lt (k : Nat) : maskN k < 18446744073709551616 := by
  have : 2 ^ (min k 64) ≤ 2 ^ 64 := Nat.pow_le_pow_right (by decide) (by omega)
  unfold maskN
  have h0 : 0 < 2 ^ (min k 64) := Nat.two_pow_pos _
  omega
theorem lp_pos (l : Bs) : ∀ (i j : Nat), j < (lp l i).length → ∃ p, p < i ∧ letB (at0 l p) = true ∧ (lp l p).length = j
  | 0, j, h => by simp [lp] at h
  | i + 1, j, h => by
    cases hb : letB (at0 l i)
    · rw [lp_no hb] at h
      obtain ⟨p, h1, h2⟩ := lp_pos l i j h
      exact ⟨p, by omega, h2⟩
    · rw [lp_yes hb] at h
      simp at h
      by_cases hj : j < (lp l i).length
      · obtain ⟨p, h1, h2⟩ := lp_pos l i j hj
        exact ⟨p, by omega, h2⟩
      · exact ⟨i, by omega, hb, by omega⟩
theorem mix_bits {a : Nat} {l : Bs} (hn : isName l = true) : bitsL (mixL a l) = a &&& maskN (letL l).length := by
  have hL : letL l = lp l l.length := by unfold letL; rw [if_pos hn]
  have hb : bitsL (mixL a l) = bitsF (mixL a l) (lp (mixL a l) l.length) := by rw [bitsL_name (mix_name hn), mixL_length]
  have hlp : ∀ i, lp (mixL a l) i = lp l i := lp_congr (mix_let hn)
  rw [hL]
  apply Nat.eq_of_testBit_eq
  intro j
  rw [Nat.testBit_and]
  unfold maskN
  rw [Nat.testBit_two_pow_sub_one]
  by_cases hj : j < (lp l l.length).length ∧ j < 64
  · have hd : decide (j < min (lp l l.length).length 64) = true := by simp; omega
    rw [hd, Bool.and_true]
    obtain ⟨p, hp, hlet, hlen⟩ := lp_pos l l.length j hj.1
    have h1 := bits_at (mixL a l) l.length p hp (by rw [mix_let hn]; exact hlet) (by rw [hlp, hlen]; exact hj.2)
    rw [hlp p, hlen] at h1
    rw [hb, h1, mix_at hn hp, if_pos hlet, mixB_great _ _ hlet, hlen, bitN_test _ _ hj.2]
  · have hd : decide (j < min (lp l l.length).length 64) = false := by simp; omega
    rw [hd, Bool.and_false]
    by_cases h64 : j < 64
    · rw [hb]
      exact bits_high _ _ _ (by rw [hlp]; omega)
    · refine Nat.testBit_lt_two_pow (Nat.lt_of_lt_of_le (bitsF_lt (mixL a l) (letL (mixL a l))) ?_)
      exact Nat.pow_le_pow_right (n := 2) (by decide) (show 64 ≤ j by omega)
theorem mix_same {a b : Nat} {l : Bs} (hn : isName l = true) : (mixL a l == mixL b l) = (a &&& maskN (letL l).length == b &&& maskN (letL l).length) := by
  rw [Bool.eq_iff_iff, beq_iff_eq, beq_iff_eq]
  constructor
  · intro h
    rw [← mix_bits hn, ← mix_bits hn, h]
  · intro h
    apply eq_of_at0
    · rw [mixL_length, mixL_length]
    · intro p hp
      rw [mixL_length] at hp
      rw [mix_at hn hp, mix_at hn hp]
      by_cases hl : letB (at0 l p) = true
      · rw [if_pos hl, if_pos hl]
        congr 1
        have hlt : (lp l p).length < (letL l).length := by
          have h1 := (lp_prefix l (show p + 1 ≤ l.length by omega)).length_le
          rw [lp_yes hl] at h1
          unfold letL
          rw [if_pos hn]
          simp at h1; omega
        have hmod : (lp l p).length % 64 < 64 := Nat.mod_lt _ (by decide)
        have hle : (lp l p).length % 64 ≤ (lp l p).length := Nat.mod_le _ _
        have ht := congrArg (fun n => n.testBit ((lp l p).length % 64)) h
        simp only [Nat.testBit_and] at ht
        unfold maskN at ht
        rw [Nat.testBit_two_pow_sub_one] at ht
        have hd : decide ((lp l p).length % 64 < min (letL l).length 64) = true := by simp; omega
        rw [hd, Bool.and_true, Bool.and_true] at ht
        unfold bitN
        rw [← Nat.testBit_eq_decide_div_mod_eq, ← Nat.testBit_eq_decide_div_mod_eq]
        exact ht
      · rw [if_neg hl, if_neg hl]
end Go.Proofs.YtenmhfhnhfhooaaDoor
