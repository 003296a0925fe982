/- Plain laws of TopFairly. -/
import Derived.Test.YtkdfbmbccopchaaQNext
namespace Go.Proofs.Ytkdfbmbccopchaa

/-- The numbers from q on. -/
def ids (q n : Nat) : List Int := (List.range' q (n - q)).map fun (k : Nat) => (k : Int)
theorem ids_len (q n : Nat) : (ids q n).length = n - q := by simp [ids]
theorem ids_snoc {j : Nat} : ids 0 j ++ [(j : Int)] = ids 0 (j + 1) := by
  unfold ids
  rw [show j + 1 - 0 = j + 1 by omega, List.range'_1_concat, List.map_append]
  simp
theorem ids_cons {q n : Nat} (h : q < n) : ids q n = (q : Int) :: ids (q + 1) n := by
  unfold ids
  rw [show n - q = (n - (q + 1)) + 1 by omega, List.range'_succ]
  rfl
theorem ids_nil {q n : Nat} (h : n ≤ q) : ids q n = [] := by
  unfold ids
  rw [show n - q = 0 by omega]; rfl
theorem ids_mem {x : Int} {j : Nat} (h : x ∈ ids 0 j) : x < (j : Int) := by
  unfold ids at h
  obtain ⟨k, hk, rfl⟩ := List.mem_map.1 h
  rw [List.mem_range'_1] at hk
  omega
/-- All have all. -/
def base (ks : List Int) (n : Nat) : Cl := ks.map fun k => (k, ids 0 n)
theorem base_many (ks : List Int) (n : Nat) : manyC (base ks n) = n * ks.length := by
  induction ks with
  | nil => simp [base, manyC]
  | cons k t ih =>
    have : manyC (base (k :: t) n) = (ids 0 n).length + manyC (base t n) := manyC_cons _ _
    rw [this, ih, ids_len, List.length_cons, Nat.mul_succ]; omega
theorem base_get {ks : List Int} {n : Nat} {a : Int} (h : a ∈ ks) : getC (base ks n) a = ids 0 n := by
  induction ks with
  | nil => cases h
  | cons k t ih =>
    show getC ((k, ids 0 n) :: base t n) a = _
    unfold getC
    by_cases e : k = a
    · rw [if_pos e]
    · rw [if_neg e]
      exact ih ((List.mem_cons.1 h).resolve_left fun h => e h.symm)
theorem base_no {ks : List Int} {n : Nat} {a : Int} (h : a ∉ ks) : ∀ p ∈ base ks n, p.1 ≠ a := by
  intro p hp e
  obtain ⟨k, hk, rfl⟩ := List.mem_map.1 hp
  exact h (by rw [← e]; exact hk)
/-- A client's numbers put, up to j. -/
def putTo (ks : List Int) (n : Nat) (a : Int) (j : Nat) : Cl := if a ∈ ks then base ks n else base ks n ++ (if j = 0 then [] else [(a, ids 0 j)])
theorem putTo_zero (ks : List Int) (n : Nat) (a : Int) : putTo ks n a 0 = base ks n := by
  unfold putTo
  split
  · rfl
  · simp
theorem putTo_get (ks : List Int) (n : Nat) (a : Int) (j : Nat) (h : a ∉ ks) : getC (putTo ks n a j) a = ids 0 j := by
  unfold putTo
  rw [if_neg h]
  by_cases hj : j = 0
  · rw [if_pos hj, List.append_nil, getC_none (base_no h), hj]; rfl
  · rw [if_neg hj, getC_append _ _ _ _ (base_no h), if_pos rfl]
theorem putTo_many (ks : List Int) (n : Nat) (a : Int) (j : Nat) (hj : j ≤ n) : manyC (putTo ks n a j) ≤ n * ks.length + j := by
  unfold putTo
  split
  · rw [base_many]; omega
  · rw [manyC_append, base_many]
    split
    · simp [manyC]
    · have : manyC [(a, ids 0 j)] = j := by simp [manyC, ids_len]
      omega
theorem putTo_len (ks : List Int) (n : Nat) (a : Int) (j : Nat) : (putTo ks n a j).length ≤ ks.length + 1 := by
  unfold putTo
  split
  · simp [base]
  · split <;> simp [base]
theorem putTo_step {ks : List Int} {n : Nat} {a : Int} {j : Nat} (hj : j < n) (hr : n * ks.length + n < 200) : (putQ 200 n (putTo ks n a j) a (j : Int)).1 = putTo ks n a (j + 1) := by
  have hm := putTo_many ks n a j (Nat.le_of_lt hj)
  unfold putQ
  rw [if_neg (by omega)]
  by_cases h : a ∈ ks
  · have hb : putTo ks n a j = base ks n := by unfold putTo; rw [if_pos h]
    have hb2 : putTo ks n a (j + 1) = base ks n := by unfold putTo; rw [if_pos h]
    rw [hb, hb2, base_get h, ids_len, if_pos (by omega)]
  · rw [putTo_get ks n a j h, ids_len, if_neg (by omega), if_neg (fun hm => by have := ids_mem hm; omega)]
    show addC (putTo ks n a j) a (j : Int) = _
    unfold putTo
    rw [if_neg h, if_neg h]
    by_cases h0 : j = 0
    · subst h0
      rw [if_pos rfl, if_neg (by omega), List.append_nil, addC_new (base_no h)]
      rfl
    · rw [if_neg h0, if_neg (by omega), ← ids_snoc]
      have : ∀ (s : Cl), (∀ p ∈ s, p.1 ≠ a) → addC (s ++ [(a, ids 0 j)]) a (j : Int) = s ++ [(a, ids 0 j ++ [(j : Int)])] := by
        intro s hs
        induction s with
        | nil =>
          show addC [(a, ids 0 j)] a (j : Int) = _
          unfold addC
          rw [if_pos rfl]
          rfl
        | cons p t ih =>
          rw [List.cons_append]
          unfold addC
          rw [if_neg (hs p (by simp)), ih fun q hq => hs q (by simp [hq])]
          rfl
      exact this _ (base_no h)
theorem putTo_all (ks : List Int) (n : Nat) (a : Int) (hn : 1 ≤ n) : putTo ks n a n = base (if a ∈ ks then ks else ks ++ [a]) n := by
  unfold putTo
  split
  · rfl
  · rw [if_neg (by omega)]
    simp [base]
/-- What waits while it is taken, in turn. -/
def turnC (ks : List Int) (n q s : Nat) : Cl := (ks.drop s).map (fun k => (k, ids q n)) ++ (if q + 1 < n then (ks.take s).map fun k => (k, ids (q + 1) n) else [])
theorem turnC_zero (ks : List Int) (n : Nat) : turnC ks n 0 0 = base ks n := by
  unfold turnC base
  simp
theorem turnC_next {ks : List Int} {n q s : Nat} {k : Int} (hq : q < n) (hk : ks[s]? = some k) : nextQ (turnC ks n q s) = (turnC ks n q (s + 1), k, (q : Int), true) := by
  obtain ⟨hs, rfl⟩ := List.getElem?_eq_some_iff.1 hk
  unfold turnC
  rw [List.drop_eq_getElem_cons hs, List.map_cons, List.cons_append, ids_cons hq]
  show (if ids (q + 1) n = [] then _ else _, _, _, _) = _
  by_cases h : q + 1 < n
  · rw [if_neg (by rw [ids_cons h]; simp), if_pos h, if_pos h, List.take_succ_eq_append_getElem hs, List.map_append, List.append_assoc]
    rfl
  · rw [if_pos (ids_nil (by omega)), if_neg h, if_neg h]
theorem turnC_round {ks : List Int} {n q : Nat} (h : q + 1 < n) : turnC ks n q ks.length = turnC ks n (q + 1) 0 := by
  unfold turnC
  rw [List.drop_length, List.take_length, if_pos h]
  simp
theorem turnC_len (ks : List Int) (n q s : Nat) (hs : s ≤ ks.length) : (turnC ks n q s).length ≤ ks.length := by
  unfold turnC
  rw [List.length_append, List.length_map, List.length_drop]
  split
  · simp; omega
  · simp
theorem turnC_many (ks : List Int) (n q s : Nat) (hs : s ≤ ks.length) : manyC (turnC ks n q s) ≤ n * ks.length := by
  have hsum : ∀ (l : List Int) (m : Nat), m ≤ n → manyC (l.map fun k => (k, ids (n - m) n)) ≤ n * l.length := by
    intro l m hm
    induction l with
    | nil => simp [manyC]
    | cons k t ih =>
      rw [List.map_cons, manyC_cons, ids_len, List.length_cons, Nat.mul_succ]
      omega
  have hsum2 : ∀ (l : List Int) (m : Nat), manyC (l.map fun k => (k, ids m n)) ≤ n * l.length := by
    intro l m
    induction l with
    | nil => simp [manyC]
    | cons k t ih =>
      rw [List.map_cons, manyC_cons, ids_len, List.length_cons, Nat.mul_succ]
      omega
  unfold turnC
  rw [manyC_append]
  have h1 := hsum2 (ks.drop s) q
  rw [List.length_drop] at h1
  have h3 : n * (ks.length - s) + n * s = n * ks.length := by rw [← Nat.mul_add]; congr 1; omega
  split
  · have h2 := hsum2 (ks.take s) (q + 1)
    rw [List.length_take, Nat.min_eq_left hs] at h2
    omega
  · have : manyC ([] : Cl) = 0 := rfl
    have h4 : 0 ≤ n * s := Nat.zero_le _
    omega
end Go.Proofs.Ytkdfbmbccopchaa
