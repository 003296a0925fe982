/- Plain laws of mixing; no program in sight. Conditions: none. -/
import Derived.Test.YtenmhfhnhfhooaaDoorMixMath
namespace Go.Proofs.YtenmhfhnhfhooaaDoor

theorem byte_all {p : Nat → Prop} (h : ∀ n : Fin 256, p n.val) (c : UInt8) : p c.toNat := h ⟨c.toNat, c.toNat_lt⟩
theorem mixB_nat (b : Bool) (c : UInt8) : (mixB b c).toNat = if b then (c.toNat ||| 32) &&& 223 else c.toNat ||| 32 := by
  unfold mixB; cases b <;> simp
theorem mixB_let (b : Bool) (c : UInt8) (h : letB c = true) : letB (mixB b c) = true := by
  rw [letB_iff] at h ⊢
  rw [mixB_nat]
  revert h
  cases b
  · exact byte_all (p := fun n => (65 ≤ n ∧ n ≤ 90 ∨ 97 ≤ n ∧ n ≤ 122) → (65 ≤ (if false = true then (n ||| 32) &&& 223 else n ||| 32) ∧ (if false = true then (n ||| 32) &&& 223 else n ||| 32) ≤ 90 ∨ 97 ≤ (if false = true then (n ||| 32) &&& 223 else n ||| 32) ∧ (if false = true then (n ||| 32) &&& 223 else n ||| 32) ≤ 122)) (by decide +kernel) c
  · exact byte_all (p := fun n => (65 ≤ n ∧ n ≤ 90 ∨ 97 ≤ n ∧ n ≤ 122) → (65 ≤ (if true = true then (n ||| 32) &&& 223 else n ||| 32) ∧ (if true = true then (n ||| 32) &&& 223 else n ||| 32) ≤ 90 ∨ 97 ≤ (if true = true then (n ||| 32) &&& 223 else n ||| 32) ∧ (if true = true then (n ||| 32) &&& 223 else n ||| 32) ≤ 122)) (by decide +kernel) c
/-- A fact on all bytes, from its 256 cases. -/
theorem all_bytes {p : UInt8 → Bool} (h : (List.range 256).all (fun n => p (UInt8.ofNat n)) = true) (c : UInt8) : p c = true := by
  have := List.all_eq_true.1 h c.toNat (by simp; exact c.toNat_lt)
  rwa [UInt8.ofNat_toNat] at this
theorem mixB_low (b : Bool) (c : UInt8) (h : letB c = true) : lowB (mixB b c) = lowB c := by
  cases b
  · have := all_bytes (p := fun c => !letB c || (lowB (mixB false c) == lowB c)) (by decide +kernel) c
    simpa [h] using this
  · have := all_bytes (p := fun c => !letB c || (lowB (mixB true c) == lowB c)) (by decide +kernel) c
    simpa [h] using this
theorem mixB_great (b : Bool) (c : UInt8) (h : letB c = true) : great (mixB b c) = b := by
  cases b
  · have := all_bytes (p := fun c => !letB c || (great (mixB false c) == false)) (by decide +kernel) c
    simpa [h] using this
  · have := all_bytes (p := fun c => !letB c || (great (mixB true c) == true)) (by decide +kernel) c
    simpa [h] using this
theorem mixB_mixB (b b' : Bool) (c : UInt8) : mixB b' (mixB b c) = mixB b' c := by
  cases b <;> cases b'
  · have := all_bytes (p := fun c => mixB false (mixB false c) == mixB false c) (by decide +kernel) c
    simpa using this
  · have := all_bytes (p := fun c => mixB true (mixB false c) == mixB true c) (by decide +kernel) c
    simpa using this
  · have := all_bytes (p := fun c => mixB false (mixB true c) == mixB false c) (by decide +kernel) c
    simpa using this
  · have := all_bytes (p := fun c => mixB true (mixB true c) == mixB true c) (by decide +kernel) c
    simpa using this
theorem mixB_back (c : UInt8) (h : letB c = true) : mixB (great c) c = c := by
  have := all_bytes (p := fun c => !letB c || (mixB (great c) c == c)) (by decide +kernel) c
  simpa [h] using this

/-! Byte by byte -/
theorem at0_set (o : Bs) (i p : Nat) (v : UInt8) : at0 (o.set i v) p = if i = p ∧ p < o.length then v else at0 o p := by
  unfold at0
  by_cases h : i = p
  · subst h
    by_cases h2 : i < o.length
    · rw [if_pos ⟨rfl, h2⟩, List.getElem?_set_self h2]; rfl
    · rw [if_neg (fun h3 => h2 h3.2), List.getElem?_eq_none (by simp; omega), List.getElem?_eq_none (by omega)]
  · rw [if_neg (fun h3 => h h3.1), List.getElem?_set_ne h]
theorem eq_of_at0 {a b : Bs} (hl : a.length = b.length) (h : ∀ p, p < a.length → at0 a p = at0 b p) : a = b := by
  apply List.ext_getElem hl
  intro p h1 h2
  have := h p h1
  unfold at0 at this
  rw [List.getElem?_eq_getElem h1, List.getElem?_eq_getElem h2] at this
  exact this
theorem out_at (d : Nat) (l : Bs) : ∀ (i p : Nat), i ≤ l.length → at0 (outOf d l (lp l i)) p = if letB (at0 l p) = true ∧ p < i then mixB (bitN d (lp l p).length) (at0 l p) else at0 l p
  | 0, p, _ => by rw [if_neg (by omega)]; rfl
  | i + 1, p, hi => by
    have ih := out_at d l i
    cases hb : letB (at0 l i)
    · rw [lp_no hb, ih p (by omega)]
      by_cases hp : p = i
      · subst hp
        rw [if_neg (by rw [hb]; simp), if_neg (by rw [hb]; simp)]
      · by_cases h2 : letB (at0 l p) = true ∧ p < i
        · rw [if_pos h2, if_pos ⟨h2.1, by omega⟩]
        · rw [if_neg h2, if_neg (fun h3 => h2 ⟨h3.1, by omega⟩)]
    · rw [lp_yes hb, outOf_snoc]
      unfold stepM
      rw [at0_set, outOf_length]
      dsimp only
      by_cases hp : i = p
      · subst hp
        rw [if_pos ⟨rfl, by omega⟩, if_pos ⟨hb, by omega⟩, ih i (by omega), if_neg (by omega)]
      · rw [if_neg (fun h3 => hp h3.1), ih p (by omega)]
        by_cases h2 : letB (at0 l p) = true ∧ p < i
        · rw [if_pos h2, if_pos ⟨h2.1, by omega⟩]
        · rw [if_neg h2, if_neg (fun h3 => h2 ⟨h3.1, by omega⟩)]
theorem mix_at {d : Nat} {l : Bs} (hn : isName l = true) {p : Nat} (hp : p < l.length) : at0 (mixL d l) p = if letB (at0 l p) = true then mixB (bitN d (lp l p).length) (at0 l p) else at0 l p := by
  unfold mixL letL
  rw [if_pos hn, out_at d l l.length p (Nat.le_refl _)]
  by_cases h : letB (at0 l p) = true
  · rw [if_pos ⟨h, hp⟩, if_pos h]
  · rw [if_neg (fun h2 => h h2.1), if_neg h]
theorem at0_fold (l : Bs) (p : Nat) : at0 (foldB l) p = lowB (at0 l p) := by
  unfold at0 foldB
  rw [List.getElem?_map]
  cases l[p]? <;> rfl
theorem mix_fold {d : Nat} {l : Bs} (hn : isName l = true) : foldB (mixL d l) = foldB l := by
  apply eq_of_at0
  · rw [foldB_length, foldB_length, mixL_length]
  · intro p hp
    rw [foldB_length, mixL_length] at hp
    rw [at0_fold, at0_fold, mix_at hn hp]
    by_cases h : letB (at0 l p) = true
    · rw [if_pos h, mixB_low _ _ h]
    · rw [if_neg h]
theorem mix_name {d : Nat} {l : Bs} (hn : isName l = true) : isName (mixL d l) = true := by
  rw [← isName_fold, mix_fold hn, isName_fold]; exact hn
theorem mix_let {d : Nat} {l : Bs} (hn : isName l = true) (p : Nat) : letB (at0 (mixL d l) p) = letB (at0 l p) := by
  by_cases hp : p < l.length
  · rw [mix_at hn hp]
    by_cases h : letB (at0 l p) = true
    · rw [if_pos h, mixB_let _ _ h, h]
    · rw [if_neg h]
  · unfold at0
    rw [List.getElem?_eq_none (by rw [mixL_length]; omega), List.getElem?_eq_none (by omega)]
theorem lp_congr {l m : Bs} (h : ∀ p, letB (at0 l p) = letB (at0 m p)) : ∀ i, lp l i = lp m i
  | 0 => rfl
  | i + 1 => by simp only [lp, h i, lp_congr h i]
theorem mix_letL {d : Nat} {l : Bs} (hn : isName l = true) : letL (mixL d l) = letL l := by
  unfold letL
  rw [if_pos hn, if_pos (mix_name hn), mixL_length]
  exact lp_congr (mix_let hn) _
theorem mix_mix {d d' : Nat} {l : Bs} (hn : isName l = true) : mixL d' (mixL d l) = mixL d' l := by
  apply eq_of_at0
  · rw [mixL_length, mixL_length, mixL_length]
  · intro p hp
    rw [mixL_length, mixL_length] at hp
    rw [mix_at (mix_name hn) (by rw [mixL_length]; exact hp), mix_let hn, mix_at hn hp, lp_congr (mix_let hn), mix_at hn hp]
    by_cases h : letB (at0 l p) = true
    · rw [if_pos h, if_pos h, if_pos h, mixB_mixB]
    · rw [if_neg h, if_neg h, if_neg h]

/-! The bits -/
theorem bitN_test (d j : Nat) (hj : j < 64) : bitN d j = d.testBit j := by
  unfold bitN
  rw [Nat.mod_eq_of_lt hj, Nat.testBit_eq_decide_div_mod_eq]
theorem bits_high (l : Bs) : ∀ (i j : Nat), (lp l i).length ≤ j → (bitsF l (lp l i)).testBit j = false
  | 0, j, _ => by simp [lp, bitsF]
  | i + 1, j, h => by
    cases hb : letB (at0 l i)
    · rw [lp_no hb] at h ⊢; exact bits_high l i j h
    · rw [lp_yes hb] at h ⊢
      simp at h
      rw [bitsF_snoc]
      dsimp only
      have ih := bits_high l i j (by omega)
      split
      · rw [Nat.testBit_or, ih, Nat.testBit_two_pow_of_ne (by omega)]; rfl
      · exact ih
theorem bits_at (l : Bs) : ∀ (i p : Nat), p < i → letB (at0 l p) = true → (lp l p).length < 64 → (bitsF l (lp l i)).testBit (lp l p).length = great (at0 l p)
  | 0, p, h, _, _ => by omega
  | i + 1, p, h, hl, h64 => by
    cases hb : letB (at0 l i)
    · have hp : p ≠ i := fun e => by rw [e, hb] at hl; cases hl
      rw [lp_no hb]
      exact bits_at l i p (by omega) hl h64
    · rw [lp_yes hb, bitsF_snoc]
      dsimp only
      by_cases hp : p = i
      · subst hp
        have hh := bits_high l p (lp l p).length (Nat.le_refl _)
        by_cases hg : great (at0 l p) = true
        · rw [if_pos ⟨h64, hg⟩, Nat.testBit_or, hh, Nat.testBit_two_pow_self, hg]; rfl
        · rw [if_neg (fun h2 => hg h2.2), hh]; simpa using hg
      · have ih := bits_at l i p (by omega) hl h64
        have hlt : (lp l p).length < (lp l i).length := by
          have h1 := (lp_prefix l (show p + 1 ≤ i by omega)).length_le
          rw [lp_yes hl] at h1
          simp at h1; omega
        split
        · rw [Nat.testBit_or, ih, Nat.testBit_two_pow_of_ne (by omega), Bool.or_false]
        · exact ih
theorem bitsL_name {l : Bs} (hn : isName l = true) : bitsL l = bitsF l (lp l l.length) := by unfold bitsL letL; rw [if_pos hn]
theorem mix_back {l : Bs} (hn : isName l = true) (h64 : (letL l).length ≤ 64) : mixL (bitsL l) l = l := by
  apply eq_of_at0
  · rw [mixL_length]
  · intro p hp
    rw [mixL_length] at hp
    rw [mix_at hn hp]
    by_cases h : letB (at0 l p) = true
    · have hlen : (lp l p).length < 64 := by
        have h1 := (lp_prefix l (show p + 1 ≤ l.length by omega)).length_le
        rw [lp_yes h] at h1
        unfold letL at h64
        rw [if_pos hn] at h64
        simp at h1; omega
      rw [if_pos h, bitN_test _ _ hlen, bitsL_name hn, bits_at l l.length p hp h hlen, mixB_back _ h]
    · rw [if_neg h]
end Go.Proofs.YtenmhfhnhfhooaaDoor
