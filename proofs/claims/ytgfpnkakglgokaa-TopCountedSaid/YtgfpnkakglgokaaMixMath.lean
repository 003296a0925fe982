/- Plain lemmas: letters, great and small; no program in sight. Conditions: none. -/
import Derived.Test.YtgfpnkakglgokaaLabelMath
namespace Go.Proofs.Ytgfpnkakglgokaa

/-- A letter, great or small. -/
def letB (c : UInt8) : Bool := (decide (65 ≤ c.toNat) && decide (c.toNat ≤ 90)) || (decide (97 ≤ c.toNat) && decide (c.toNat ≤ 122))
theorem letB_iff (c : UInt8) : letB c = true ↔ (65 ≤ c.toNat ∧ c.toNat ≤ 90) ∨ (97 ≤ c.toNat ∧ c.toNat ≤ 122) := by simp [letB]
/-- Byte i. -/
def at0 (l : Bs) (i : Nat) : UInt8 := l[i]?.getD 0
theorem at0_eq {l : Bs} {i : Nat} {c : UInt8} (h : l[i]? = some c) : at0 l i = c := by unfold at0; rw [h]; rfl
/-- The places of the letters among the first i bytes, each with how many are ahead. -/
def lp (l : Bs) : Nat → List (Nat × Nat)
  | 0 => []
  | i + 1 => if letB (at0 l i) then lp l i ++ [(i, (lp l i).length)] else lp l i
theorem lp_yes {l : Bs} {i : Nat} (h : letB (at0 l i) = true) : lp l (i + 1) = lp l i ++ [(i, (lp l i).length)] := by simp [lp, h]
theorem lp_no {l : Bs} {i : Nat} (h : letB (at0 l i) = false) : lp l (i + 1) = lp l i := by simp [lp, h]
theorem lp_prefix (l : Bs) : ∀ {i j : Nat}, i ≤ j → lp l i <+: lp l j
  | i, j, h => by
    induction j with
    | zero =>
      obtain rfl : i = 0 := by omega
      exact List.prefix_refl _
    | succ j ih =>
      by_cases e : i = j + 1
      · subst e
        exact List.prefix_refl _
      · refine (ih (by omega)).trans ?_
        cases hb : letB (at0 l j)
        · rw [lp_no hb]; exact List.prefix_refl _
        · rw [lp_yes hb]; exact List.prefix_append _ _
theorem lp_length_le (l : Bs) (i : Nat) : (lp l i).length ≤ i := by
  induction i with
  | zero => exact Nat.le_refl _
  | succ i ih =>
    cases hb : letB (at0 l i)
    · rw [lp_no hb]; omega
    · rw [lp_yes hb]; simp; omega
/-- All letters of a name; of what is none: none. -/
def letL (l : Bs) : List (Nat × Nat) := if isName l = true then lp l l.length else []
theorem lp_end {l : Bs} {i : Nat} (h : l.length ≤ i) : lp l i = lp l l.length := by
  induction i with
  | zero =>
    have : l.length = 0 := by omega
    rw [this]
  | succ i ih =>
    by_cases e : l.length = i + 1
    · rw [e]
    · have h2 : letB (at0 l i) = false := by
        unfold at0
        rw [List.getElem?_eq_none (by omega)]
        rfl
      rw [lp_no h2, ih (by omega)]

/-- A label's length is no letter, nor is what ends a name. -/
theorem let_small {c : UInt8} (h : c.toNat ≤ 63) : letB c = false := by
  cases hb : letB c
  · rfl
  · rw [letB_iff] at hb; omega
theorem lp_len {l : Bs} {i : Nat} (h : (at0 l i).toNat ≤ 63) : lp l (i + 1) = lp l i := lp_no (let_small h)

/-! Mixing -/
def bitN (d j : Nat) : Bool := decide (d / 2 ^ (j % 64) % 2 = 1)
def mixB (b : Bool) (c : UInt8) : UInt8 := if b then (c ||| 32) &&& 223 else c ||| 32
def stepM (d : Nat) (o : Bs) (x : Nat × Nat) : Bs := o.set x.1 (mixB (bitN d x.2) (at0 o x.1))
def outOf (d : Nat) (l : Bs) (pre : List (Nat × Nat)) : Bs := pre.foldl (stepM d) l
theorem outOf_snoc (d : Nat) (l : Bs) (pre : List (Nat × Nat)) (x : Nat × Nat) : outOf d l (pre ++ [x]) = stepM d (outOf d l pre) x := by simp [outOf]
theorem outOf_length (d : Nat) (l : Bs) : ∀ pre : List (Nat × Nat), (outOf d l pre).length = l.length := by
  intro pre
  unfold outOf
  induction pre generalizing l with
  | nil => rfl
  | cons x pre ih => rw [List.foldl_cons, ih]; simp [stepM]
/-- A name, mixed. -/
def mixL (d : Nat) (l : Bs) : Bs := outOf d l (letL l)
theorem mixL_length (d : Nat) (l : Bs) : (mixL d l).length = l.length := outOf_length d l _
theorem lp_lt {l : Bs} : ∀ {i : Nat} {x : Nat × Nat}, x ∈ lp l i → x.1 < i ∧ letB (at0 l x.1) = true
  | 0, x, h => by simp [lp] at h
  | i + 1, x, h => by
    cases hb : letB (at0 l i)
    · rw [lp_no hb] at h
      have := lp_lt h
      exact ⟨by omega, this.2⟩
    · rw [lp_yes hb, List.mem_append, List.mem_singleton] at h
      rcases h with h | rfl
      · have := lp_lt h
        exact ⟨by omega, this.2⟩
      · exact ⟨by show i < i + 1; omega, hb⟩
theorem letL_lt {l : Bs} {x : Nat × Nat} (h : x ∈ letL l) : x.1 < l.length := by
  unfold letL at h
  split at h
  · exact (lp_lt h).1
  · simp at h

/-! Which are great -/
def great (c : UInt8) : Bool := c &&& 32 == 0
def bitsF (l : Bs) (pre : List (Nat × Nat)) : Nat := pre.foldl (fun n x => if x.2 < 64 ∧ great (at0 l x.1) = true then n ||| 2 ^ x.2 else n) 0
theorem bitsF_snoc (l : Bs) (pre : List (Nat × Nat)) (x : Nat × Nat) : bitsF l (pre ++ [x]) = if x.2 < 64 ∧ great (at0 l x.1) = true then bitsF l pre ||| 2 ^ x.2 else bitsF l pre := by simp [bitsF]
theorem bitsF_lt (l : Bs) (pre : List (Nat × Nat)) : bitsF l pre < 18446744073709551616 := by
  generalize hn : pre.length = n
  induction n generalizing pre with
  | zero => have : pre = [] := List.eq_nil_of_length_eq_zero hn
            subst this; show 0 < _; decide
  | succ n ih =>
    rcases List.eq_nil_or_concat pre with rfl | ⟨p, x, rfl⟩
    · show 0 < _; decide
    · rw [List.concat_eq_append, bitsF_snoc]
      have h := ih p (by simp at hn; exact hn)
      split
      · rename_i h2
        have : 2 ^ x.2 < 2 ^ 64 := Nat.pow_lt_pow_right (by decide) h2.1
        exact Nat.or_lt_two_pow (n := 64) h this
      · exact h
theorem lp_ahead {l : Bs} : ∀ {i : Nat} {pre : List (Nat × Nat)} {x : Nat × Nat}, pre ++ [x] <+: lp l i → x.2 = pre.length
  | 0, pre, x, h => by have := h.length_le; simp [lp] at this
  | i + 1, pre, x, h => by
    cases hb : letB (at0 l i)
    · rw [lp_no hb] at h; exact lp_ahead h
    · rw [lp_yes hb] at h
      by_cases hlen : pre.length < (lp l i).length
      · have : pre ++ [x] <+: lp l i := List.prefix_of_prefix_length_le h (List.prefix_append _ _) (by simp; omega)
        exact lp_ahead this
      · have h1 := h.length_le
        simp at h1
        have h2 : pre ++ [x] = lp l i ++ [(i, (lp l i).length)] := h.eq_of_length (by simp; omega)
        have h3 := List.append_inj h2 (by omega)
        rw [h3.1]
        have := h3.2
        simp at this
        rw [this]
theorem letL_ahead {l : Bs} {pre : List (Nat × Nat)} {x : Nat × Nat} (h : pre ++ [x] <+: letL l) : x.2 = pre.length := by
  unfold letL at h
  split at h
  · exact lp_ahead h
  · have := h.length_le; simp at this
/-- The number whose bits tell which of the first 64 letters are great. -/
def bitsL (l : Bs) : Nat := bitsF l (letL l)
theorem bitsF_ignore (l : Bs) : ∀ (suf pre : List (Nat × Nat)), (∀ x ∈ suf, 64 ≤ x.2) → bitsF l (pre ++ suf) = bitsF l pre
  | [], pre, _ => by simp
  | x :: suf, pre, h => by
    have h1 : pre ++ x :: suf = (pre ++ [x]) ++ suf := by simp
    rw [h1, bitsF_ignore l suf (pre ++ [x]) (fun y hy => h y (by simp [hy])), bitsF_snoc, if_neg]
    intro h2
    have := h x (by simp)
    omega
theorem letL_from {l : Bs} {pre : List (Nat × Nat)} (h : pre <+: letL l) (h64 : 64 ≤ pre.length) : bitsF l (letL l) = bitsF l pre := by
  obtain ⟨suf, hs⟩ := h
  rw [← hs]
  refine bitsF_ignore l suf pre (fun x hx => ?_)
  obtain ⟨a, b, hab⟩ := List.append_of_mem hx
  have : (pre ++ a) ++ [x] <+: letL l := ⟨b, by rw [← hs, hab]; simp⟩
  have := letL_ahead this
  simp at this
  omega
end Go.Proofs.Ytgfpnkakglgokaa
