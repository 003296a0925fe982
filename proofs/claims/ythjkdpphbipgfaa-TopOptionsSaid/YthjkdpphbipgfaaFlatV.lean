/- Lists of structs in memory: the cells of a list, one behind the other. Plain: no program in sight. Conditions: none. What is read, as the source of an append. Plain: no program in sight. Conditions: none. -/
import Derived.Test.YthjkdpphbipgfaaSl
namespace Go.Proofs.Ythjkdpphbipgfaa
open Go.RowKit

section
variable {α : Type} {vs : α → List Value} {k : Nat}
/-- The cells of a list. -/
def flatV (vs : α → List Value) (xs : List α) : List Value := xs.flatMap vs
theorem flatV_cons (e : α) (xs : List α) : flatV vs (e :: xs) = vs e ++ flatV vs xs := rfl
theorem flatV_append (xs ys : List α) : flatV vs (xs ++ ys) = flatV vs xs ++ flatV vs ys := by simp [flatV]
theorem flatV_one (e : α) : flatV vs [e] = vs e := by simp [flatV]
theorem flatV_length (hk : ∀ e, (vs e).length = k) (xs : List α) : (flatV vs xs).length = xs.length * k := by
  induction xs with
  | nil => simp [flatV]
  | cons e xs ih => rw [flatV_cons, List.length_append, ih, hk, List.length_cons, Nat.add_mul, Nat.one_mul, Nat.add_comm]
theorem flatV_at (hk : ∀ e, (vs e).length = k) : ∀ (xs : List α) (j : Nat) (e : α) (i : Nat) (v : Value), xs[j]? = some e → (vs e)[i]? = some v → (flatV vs xs)[j * k + i]? = some v
  | [], j, e, i, v, h, _ => by simp at h
  | f :: xs, 0, e, i, v, h, hv => by
    have : f = e := by simpa using h
    subst this
    have hi : i < (vs f).length := (List.getElem?_eq_some_iff.1 hv).1
    rw [flatV_cons, Nat.zero_mul, Nat.zero_add, List.getElem?_append_left hi]
    exact hv
  | f :: xs, j + 1, e, i, v, h, hv => by
    have h2 := hk f
    rw [flatV_cons, List.getElem?_append_right (by rw [h2, Nat.add_mul]; omega), h2, show (j + 1) * k + i - k = j * k + i by rw [Nat.add_mul]; omega]
    exact flatV_at hk xs j e i v (by simpa using h) hv
theorem flatV_get (hk : ∀ e, (vs e).length = k) (hp : 0 < k) : ∀ (xs : List α) (j : Nat) (u : Value), (flatV vs xs)[j]? = some u → ∃ e, xs[j / k]? = some e ∧ (vs e)[j % k]? = some u
  | [], j, u, h => by simp [flatV] at h
  | e :: xs, j, u, h => by
    rw [flatV_cons] at h
    by_cases hj : j < k
    · rw [List.getElem?_append_left (by rw [hk]; exact hj)] at h
      rw [Nat.div_eq_of_lt hj, Nat.mod_eq_of_lt hj]
      exact ⟨e, rfl, h⟩
    · rw [List.getElem?_append_right (by rw [hk]; omega), hk] at h
      obtain ⟨f, hf, hv⟩ := flatV_get hk hp xs (j - k) u h
      have h4 : j / k = (j - k) / k + 1 := by rw [Nat.div_eq j k, if_pos ⟨hp, by omega⟩]
      have h5 : j % k = (j - k) % k := by rw [Nat.mod_eq_sub_mod (by omega)]
      exact ⟨f, by rw [h4]; simpa using hf, by rw [h5]; exact hv⟩

/-- A slice that reads as a list. -/
def GTab (vs : α → List Value) (k : Nat) (w : World) (A : Option Addr) (xs : List α) : Prop :=
  0 < xs.length → ∃ b off, A = some ⟨b, off, none⟩ ∧ b < w.heap.size ∧ ∀ (j : Nat) (e : α), xs[j]? = some e → ∀ i v, (vs e)[i]? = some v → w.cell? ⟨b, off + j * k + i, none⟩ = some v
theorem GTab.below {w w' : World} {A : Option Addr} {xs : List α} (h : GTab vs k w A xs) (hb : Below w.heap.size w w') : GTab vs k w' A xs := by
  intro hn
  obtain ⟨b, off, hA, hlt, hc⟩ := h hn
  refine ⟨b, off, hA, Nat.lt_of_lt_of_le hlt hb.size, fun j e he i v hv => ?_⟩
  rw [hb.cell (p := ⟨b, off + j * k + i, none⟩) hlt]
  exact hc j e he i v hv
/-- The same, where the list lies below B. -/
def GTabB (vs : α → List Value) (k : Nat) (w : World) (B : Nat) (A : Option Addr) (xs : List α) : Prop :=
  0 < xs.length → ∃ b off, A = some ⟨b, off, none⟩ ∧ b < B ∧ ∀ (j : Nat) (e : α), xs[j]? = some e → ∀ i v, (vs e)[i]? = some v → w.cell? ⟨b, off + j * k + i, none⟩ = some v
theorem GTab.of_sl (hk : ∀ e, (vs e).length = k) {w : World} {A : Option Addr} {c : Nat} {xs : List α} (h : Sl w k (.slice A xs.length c) xs.length (flatV vs xs)) : GTab vs k w A xs := by
  intro hp
  obtain ⟨g, cap, hv, hg, _, _, h4⟩ := h.form hp
  injection hv with hA _ _
  subst hA
  refine ⟨g, 0, rfl, hg, fun j e he i u hu => ?_⟩
  have := h4 (j * k + i) u (flatV_at hk xs j e i u he hu)
  simpa using this
theorem add_lit' (b off j : Nat) : (⟨b, off, none⟩ : Addr).add j = ⟨b, off + j, none⟩ := by unfold Addr.add; split <;> simp_all
theorem GTab.reads (hk : ∀ e, (vs e).length = k) (hp : 0 < k) {w : World} {A : Option Addr} {xs : List α} (h : GTab vs k w A xs) : Reads w w.heap.size k A xs.length (flatV vs xs) := by
  refine ⟨flatV_length hk xs, fun hn => ?_⟩
  obtain ⟨b, off, hA, hlt, hc⟩ := h hn
  refine ⟨⟨b, off, none⟩, hA, hlt, fun j u hu => ?_⟩
  obtain ⟨e, he, hv⟩ := flatV_get hk hp xs j u hu
  rw [add_lit']
  have := hc (j / k) e he (j % k) u hv
  have h2 := Nat.div_add_mod j k
  rw [Nat.mul_comm] at h2
  rw [show off + j / k * k + j % k = off + j by omega] at this
  exact this
theorem GTab.nil_ {w : World} {A : Option Addr} : GTab vs k w A [] := fun h => absurd h (by simp)
end
end Go.Proofs.Ythjkdpphbipgfaa

namespace Go.Proofs.Ythjkdpphbipgfaa
open Go.RowKit

theorem src_reads {P : Program} {tx e' : TypeId} (hk : P.underlying tx = some (.slice e')) {W : World} {B size n c : Nat} {A : Option Addr} {xs : List Value} (h : Reads W B size A n xs) (hx : ∀ u ∈ xs, u.oneCell' = true) : Src P size tx (.slice A n c) n xs W := by
  rcases Nat.eq_zero_or_pos n with h0 | hp
  · subst h0
    have hx0 : xs = [] := List.eq_nil_of_length_eq_zero (by simpa using h.1)
    subst hx0
    cases A with
    | none => exact Src.ofNil _ hk c
    | some a => exact Src.ofSlice _ hk a 0 c [] (by simp) (fun j u hu => by simp at hu) (fun u hu => by cases hu)
  · obtain ⟨a, rfl, _, hc⟩ := h.2 hp
    exact Src.ofSlice _ hk a n c xs h.1 hc hx
theorem src_own {P : Program} {tx e' : TypeId} (hk : P.underlying tx = some (.slice e')) {W : World} {size n c : Nat} {A : Option Addr} {xs : List Value} (h : Sl W size (.slice A n c) n xs) (hx : ∀ u ∈ xs, u.oneCell' = true) : Src P size tx (.slice A n c) n xs W := by
  obtain ⟨A2, c2, hv, _, _, hr⟩ := h.reads
  injection hv with h1 _ h3
  subst h1 h3
  exact src_reads hk hr hx
end Go.Proofs.Ythjkdpphbipgfaa
