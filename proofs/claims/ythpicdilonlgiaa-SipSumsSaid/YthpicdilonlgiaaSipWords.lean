/- The law SipWords, walked. -/
import Derived.Test.YthpicdilonlgiaaSipNoTwo
namespace Go.Proofs.Ythpicdilonlgiaa
open Go.RowKit

/-! ### Plain: the words tell the text, but for its length modulo 256 -/
theorem lowL_inj : ∀ {l m : List UInt8}, l.length = m.length → lowL l = lowL m → l = m
  | [], [], _, _ => rfl
  | [], _ :: _, h, _ => by simp at h
  | _ :: _, [], h, _ => by simp at h
  | c :: l, d :: m, h, e => by
    simp only [lowL] at e
    have h1 := c.toNat_lt
    have h2 := d.toNat_lt
    have hc : c.toNat = d.toNat := by omega
    have hl : lowL l = lowL m := by omega
    rw [UInt8.toNat_inj.1 hc, lowL_inj (by simpa using h) hl]
theorem words_eq_len {l m : List UInt8} (h : wordsL l = wordsL m) : l.length % 256 = m.length % 256 := by
  have h1 := words_last l
  have h2 := words_last m
  have e : wordE l = wordE m := by
    have := congrArg List.getLast? h
    rw [h1, h2] at this
    simpa using this
  have a1 := lowE_lt l
  have a2 := lowE_lt m
  unfold wordE at e
  omega
theorem wordsL_get (l : List UInt8) (i : Nat) (h : i < l.length / 8) : (wordsL l)[i]? = some (wordI l i) := by
  unfold wordsL
  rw [List.getElem?_append_left (by simpa using h)]
  simp [h]
theorem words_inj {l m : List UInt8} (hlen : l.length = m.length) (h : wordsL l = wordsL m) : l = m := by
  have hI : ∀ i, i < l.length / 8 → wordI l i = wordI m i := by
    intro i hi
    have h1 := wordsL_get l i hi
    have h2 := wordsL_get m i (by omega)
    rw [h, h2] at h1
    exact (Option.some.inj h1).symm
  have hE : wordE l = wordE m := by
    have h1 := words_last l
    have h2 := words_last m
    have := congrArg List.getLast? h
    rw [h1, h2] at this
    simpa using this
  have hD : l.drop (8 * (l.length / 8)) = m.drop (8 * (l.length / 8)) := by
    refine lowL_inj (by simp [hlen]) ?_
    have a1 := lowE_lt l
    have a2 := lowE_lt m
    unfold wordE at hE
    rw [← hlen] at hE a2
    omega
  apply List.ext_getElem?
  intro j
  by_cases hj : j < 8 * (l.length / 8)
  · have e := lowL_inj (l := (l.drop (8 * (j / 8))).take 8) (m := (m.drop (8 * (j / 8))).take 8) (by simp [hlen]) (hI (j / 8) (by omega))
    have e2 := congrArg (fun x : List UInt8 => x[j % 8]?) e
    simp only [List.getElem?_take, List.getElem?_drop, show j % 8 < 8 by omega, if_true, show 8 * (j / 8) + j % 8 = j by omega] at e2
    exact e2
  · have e2 := congrArg (fun x : List UInt8 => x[j - 8 * (l.length / 8)]?) hD
    simp only [List.getElem?_drop, show 8 * (l.length / 8) + (j - 8 * (l.length / 8)) = j by omega] at e2
    exact e2
theorem wordsB_toNat (l : List UInt8) : (wordsB l).map BitVec.toNat = wordsL l := by
  have hlt : ∀ x ∈ wordsL l, x < 18446744073709551616 := by
    intro x hx
    unfold wordsL at hx
    rw [List.mem_append, List.mem_map] at hx
    rcases hx with ⟨i, _, rfl⟩ | hx
    · exact wordI_lt l i
    · rw [List.mem_singleton] at hx; rw [hx]; exact wordE_lt l
  unfold wordsB
  rw [List.map_map]
  conv => rhs; rw [← List.map_id (wordsL l)]
  apply List.map_congr_left
  intro x hx
  simp only [Function.comp, BitVec.toNat_ofNat, id]
  exact Nat.mod_eq_of_lt (hlt x hx)
theorem wordsB_eq {l m : List UInt8} (h : wordsB l = wordsB m) : wordsL l = wordsL m := by
  rw [← wordsB_toNat, ← wordsB_toNat, h]
theorem lowL_bytes (x : Nat) : ∀ k, lowL (bytesL x k) = x % 256 ^ k := by
  intro k
  induction k with
  | zero => simp [bytesL, lowL, Nat.mod_one]
  | succ k ih =>
    rw [bytesL_succ, lowL_snoc, ih, bytesL_length, byteI_toNat, Nat.pow_succ, Nat.mod_mul, Nat.mul_comm]
end Go.Proofs.Ythpicdilonlgiaa
