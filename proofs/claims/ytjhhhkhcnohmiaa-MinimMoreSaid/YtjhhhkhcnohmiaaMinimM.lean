/- Plain laws of questions that tell no more than they must. No program in sight. Conditions: none. -/
import Derived.Test.YtjhhhkhcnohmiaaTree
namespace Go.Proofs.Ytjhhhkhcnohmiaa

/-- A question. -/
structure Qn where
  n : ByteArray
  t : Int
  c : Int
def Qn.vs (q : Qn) : List Value := [.string q.n, .int .u16 q.t, .int .u16 q.c]
def Qn.v (q : Qn) : Value := .agg #[.string q.n, .int .u16 q.t, .int .u16 q.c]
def q0 : Qn := ⟨⟨#[]⟩, 0, 0⟩
/-- The name above, without its first m labels. -/
def above (a : ByteArray) (m : Nat) : ByteArray := ⟨(a.data.toList.drop (pos (labs a.data.toList).1 m)).toArray⟩
/-- What Next answers. -/
def nextQ (q : Qn) (z : ByteArray) : Qn × Int :=
  if isName q.n.data.toList = false ∨ isName z.data.toList = false then (q0, 2)
  else if depthN q.n.data.toList z.data.toList = -1 then (q0, 3)
  else if depthN q.n.data.toList z.data.toList = 0 ∨ depthN q.n.data.toList z.data.toList = 1 then (q, 0)
  else (⟨above q.n (depthN q.n.data.toList z.data.toList - 1).toNat, 2, q.c⟩, 0)
/-- What Deeper answers. -/
def deepQ (q : Qn) (z x : ByteArray) : Qn × Int :=
  if isName q.n.data.toList = false ∨ isName z.data.toList = false ∨ isName x.data.toList = false then (q0, 2)
  else if withinB x.data.toList z.data.toList = false then (q0, 3)
  else nextQ q x
/-- The steps. -/
def stepsL (q : Qn) (z : ByteArray) : List Qn :=
  if withinB q.n.data.toList z.data.toList = true then
    ((List.range ((depthN q.n.data.toList z.data.toList).toNat - 1)).map fun i => ⟨above q.n ((depthN q.n.data.toList z.data.toList).toNat - 1 - i), 2, q.c⟩) ++ [q]
  else []

theorem within_names {a z : Bs} (h : withinB a z = true) : isName a = true ∧ isName z = true := by
  rw [within_iff] at h
  exact ⟨h.1, h.2.1⟩
theorem depth_yes {a z : Bs} (h : withinB a z = true) : depthN a z = ((labs a).1.length : Int) - ((labs z).1.length : Int) ∧ 0 ≤ depthN a z := by
  obtain ⟨h1, h2⟩ := within_names h
  have hl := within_len h
  unfold depthN
  rw [if_pos h, namL_yes h1, namL_yes h2]
  omega
theorem depth_no {a z : Bs} (h : withinB a z = false) : depthN a z = -1 := by
  unfold depthN
  rw [if_neg (by simp [h])]
/-- What lies between. -/
theorem within_above {a z : Bs} (h : withinB a z = true) {j : Nat} (hj : (j : Int) ≤ depthN a z) : withinB (a.drop (pos (labs a).1 j)) z = true ∧ depthN (a.drop (pos (labs a).1 j)) z = depthN a z - j := by
  obtain ⟨h1, h2⟩ := within_names h
  obtain ⟨hd, _⟩ := depth_yes h
  have hw : withinB (a.drop (pos (labs a).1 j)) z = true := by
    rw [within_iff, drop_labs h1]
    refine ⟨drop_name h1 j, h2, ?_⟩
    have hs := ((within_iff a z).1 h).2.2
    rw [List.map_drop]
    refine List.suffix_of_suffix_length_le hs (List.drop_suffix _ _) ?_
    simp
    omega
  refine ⟨hw, ?_⟩
  obtain ⟨hd2, _⟩ := depth_yes hw
  rw [hd2, hd, drop_labs h1]
  simp
  omega
theorem above_list (a : ByteArray) (m : Nat) : (above a m).data.toList = a.data.toList.drop (pos (labs a.data.toList).1 m) := rfl
theorem above_size (a : ByteArray) (m : Nat) : (above a m).size ≤ a.size := by
  show (a.data.toList.drop _).toArray.size ≤ a.data.size
  simp
theorem above_ne {a : ByteArray} (h : isName a.data.toList = true) {m : Nat} (h0 : 0 < m) (hm : m ≤ (labs a.data.toList).1.length) : ((above a m).toList == a.toList) = false := by
  rw [beq_eq_false_iff_ne, ByteArray.toList_eq, ByteArray.toList_eq, above_list]
  intro e
  have := congrArg (fun l => (labs l).1.length) e
  simp only [drop_labs h, List.length_drop] at this
  omega
/-! The steps -/
section
variable {q : Qn} {z : ByteArray}
theorem steps_no (h : withinB q.n.data.toList z.data.toList = false) : stepsL q z = [] ∧ ∃ e, nextQ q z = (q0, e) ∧ (e = 2 ∨ e = 3) := by
  refine ⟨by unfold stepsL; rw [if_neg (by simp [h])], ?_⟩
  unfold nextQ
  by_cases h1 : isName q.n.data.toList = false ∨ isName z.data.toList = false
  · exact ⟨2, if_pos h1, .inl rfl⟩
  · exact ⟨3, by rw [if_neg h1, if_pos (depth_no h)], .inr rfl⟩
theorem steps_len (h : withinB q.n.data.toList z.data.toList = true) : (stepsL q z).length = ((depthN q.n.data.toList z.data.toList).toNat - 1) + 1 := by
  unfold stepsL
  rw [if_pos h]
  simp
theorem steps_at (h : withinB q.n.data.toList z.data.toList = true) {k : Nat} (hk : k < (depthN q.n.data.toList z.data.toList).toNat - 1) :
    (stepsL q z)[k]? = some ⟨above q.n ((depthN q.n.data.toList z.data.toList).toNat - 1 - k), 2, q.c⟩ := by
  unfold stepsL
  rw [if_pos h, List.getElem?_append_left (by simpa using hk), List.getElem?_map, List.getElem?_range hk]
  rfl
theorem steps_last (h : withinB q.n.data.toList z.data.toList = true) : (stepsL q z)[(depthN q.n.data.toList z.data.toList).toNat - 1]? = some q := by
  unfold stepsL
  rw [if_pos h, List.getElem?_append_right (by simp)]
  simp
theorem next_within {x : ByteArray} (h : withinB q.n.data.toList x.data.toList = true) : nextQ q x = if depthN q.n.data.toList x.data.toList ≤ 1 then (q, 0) else (⟨above q.n ((depthN q.n.data.toList x.data.toList).toNat - 1), 2, q.c⟩, 0) := by
  obtain ⟨h1, h2⟩ := within_names h
  obtain ⟨_, h0⟩ := depth_yes h
  unfold nextQ
  rw [if_neg (by simp [h1, h2]), if_neg (by omega)]
  by_cases hd : depthN q.n.data.toList x.data.toList ≤ 1
  · rw [if_pos (by omega), if_pos hd]
  · rw [if_neg (by omega), if_neg hd, show (depthN q.n.data.toList x.data.toList - 1).toNat = (depthN q.n.data.toList x.data.toList).toNat - 1 by omega]
theorem steps_first (h : withinB q.n.data.toList z.data.toList = true) : ∃ x, (stepsL q z)[0]? = some x ∧ nextQ q z = (x, 0) := by
  obtain ⟨_, h0⟩ := depth_yes h
  rw [next_within h]
  by_cases hd : depthN q.n.data.toList z.data.toList ≤ 1
  · rw [if_pos hd]
    have := steps_last h
    rw [show (depthN q.n.data.toList z.data.toList).toNat - 1 = 0 by omega] at this
    exact ⟨q, this, rfl⟩
  · rw [if_neg hd]
    exact ⟨_, steps_at h (by omega), by rw [Nat.sub_zero]⟩
/-- What stands at a place of the steps. -/
theorem steps_mem (h : withinB q.n.data.toList z.data.toList = true) {k : Nat} (hk : k + 1 < (stepsL q z).length) :
    ∃ x y, (stepsL q z)[k]? = some x ∧ (stepsL q z)[k + 1]? = some y ∧ x.n = above q.n ((depthN q.n.data.toList z.data.toList).toNat - 1 - k) ∧ x.t = 2 ∧ x.c = q.c ∧ (x.n.toList == q.n.toList) = false ∧ deepQ q z x.n = (y, 0) ∧
      depthN x.n.data.toList z.data.toList = (k : Int) + 1 ∧ withinB q.n.data.toList x.n.data.toList = true ∧ depthN q.n.data.toList x.n.data.toList = depthN q.n.data.toList z.data.toList - k - 1 := by
  rw [steps_len h] at hk
  obtain ⟨h1, h2⟩ := within_names h
  obtain ⟨hd, h0⟩ := depth_yes h
  have hm : (depthN q.n.data.toList z.data.toList).toNat - 1 - k ≤ (labs q.n.data.toList).1.length := by omega
  have hw := within_above h (j := (depthN q.n.data.toList z.data.toList).toNat - 1 - k) (by omega)
  have hw2 := within_drop h1 (Nat.zero_le ((depthN q.n.data.toList z.data.toList).toNat - 1 - k))
  have hd2 := depth_drop h1 (Nat.zero_le ((depthN q.n.data.toList z.data.toList).toNat - 1 - k)) hm
  rw [drop_zero_pos] at hw2 hd2
  have hq : ∃ y, (stepsL q z)[k + 1]? = some y ∧ nextQ q (above q.n ((depthN q.n.data.toList z.data.toList).toNat - 1 - k)) = (y, 0) := by
    rw [next_within (x := above q.n ((depthN q.n.data.toList z.data.toList).toNat - 1 - k)) hw2, above_list, hd2]
    by_cases hl : k + 1 = (depthN q.n.data.toList z.data.toList).toNat - 1
    · rw [if_pos (by omega), hl]
      exact ⟨q, steps_last h, rfl⟩
    · rw [if_neg (by omega)]
      refine ⟨_, steps_at h (by omega), ?_⟩
      rw [show (depthN q.n.data.toList z.data.toList).toNat - 1 - (k + 1) = (((depthN q.n.data.toList z.data.toList).toNat - 1 - k : Nat) - (0 : Nat) : Int).toNat - 1 by omega]
  obtain ⟨y, hy, hn⟩ := hq
  refine ⟨_, y, steps_at h (by omega), hy, rfl, rfl, rfl, above_ne h1 (by omega) hm, ?_, ?_, hw2, ?_⟩
  · unfold deepQ
    rw [if_neg (by rw [h1, h2, above_list, drop_name h1]; simp), if_neg (by rw [above_list, hw.1]; simp)]
    exact hn
  · rw [above_list, hw.2]; omega
  · rw [above_list, hd2]; omega
theorem steps_end (h : withinB q.n.data.toList z.data.toList = true) {k : Nat} (hk : k + 1 = (stepsL q z).length) : (stepsL q z)[k]? = some q := by
  rw [steps_len h] at hk
  rw [show k = (depthN q.n.data.toList z.data.toList).toNat - 1 by omega]
  exact steps_last h
end
end Go.Proofs.Ytjhhhkhcnohmiaa
