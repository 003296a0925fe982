/- The law KeyedPut, walked. -/
import Derived.Test.YtcphcgkbjlgkiaaKeyedTells
namespace Go.Proofs.Ytcphcgkbjlgkiaa
open Go.RowKit Go.Lib

/-! ### Plain -/
theorem putE_zero {xs : List Entry} {k s : ByteArray} (h : putE xs k s = 0) : sumE k.data.toList s.data.toList = 0 ∧ xs.any (Entry.is k s) = false ∧ xs.length < 4096 := by
  unfold putE at h
  by_cases h1 : sumE k.data.toList s.data.toList = 0
  · rw [if_neg (fun h2 => h2 h1)] at h
    by_cases h2 : xs.any (Entry.is k s) = true
    · rw [if_pos h2] at h; cases h
    · rw [if_neg h2] at h
      refine ⟨h1, by simpa using h2, ?_⟩
      by_cases h3 : 4096 ≤ xs.length
      · rw [if_pos h3] at h; cases h
      · omega
  · rw [if_pos h1] at h; exact absurd h h1
theorem sumE_zero {k s : ByteArray} (h : sumE k.data.toList s.data.toList = 0) : k.size = 16 := by
  unfold sumE at h
  by_cases h1 : k.data.toList.length ≠ 16
  · rw [if_pos h1] at h; cases h
  · have : k.data.toList.length = k.size := by simp
    omega
theorem is_self (k s : ByteArray) (n : Int) : Entry.is k s ⟨k, s, n⟩ = true := by unfold Entry.is; simp
theorem findN_snoc (p : Entry → Bool) (xs : List Entry) (e : Entry) : findN p (xs ++ [e]) = if xs.any p = true then findN p xs else if p e = true then e.n else 0 := by
  unfold findN
  rw [List.find?_append]
  cases h : xs.find? p with
  | some f =>
    have : xs.any p = true := List.any_eq_true.2 ⟨f, List.mem_of_find?_eq_some h, List.find?_some h⟩
    rw [if_pos this]; rfl
  | none =>
    have : ¬ xs.any p = true := by
      rw [List.find?_eq_none] at h
      rw [List.any_eq_true]
      rintro ⟨x, hx, hp⟩
      exact h x hx hp
    rw [if_neg this]
    by_cases hp : p e = true
    · rw [if_pos hp]; simp [hp]
    · rw [if_neg hp]; simp [hp]
theorem put_of {xs : List Entry} {k s : ByteArray} {n : Int} (h : putE xs k s = 0) : ofN true (xs ++ [⟨k, s, n⟩]) k s = n := by
  obtain ⟨h1, h2, _⟩ := putE_zero h
  unfold ofN
  rw [if_pos ⟨h1, rfl⟩, findN_snoc, if_neg (by rw [h2]; simp), if_pos (is_self k s n)]
theorem put_other {xs : List Entry} {k s k2 s2 : ByteArray} {n : Int} (h : putE xs k s = 0) :
    ofN true xs k2 s2 = ofN true (xs ++ [⟨k, s, n⟩]) k2 s2 ∨ (k.toList = k2.toList ∧ s.toList = s2.toList) := by
  obtain ⟨_, h2, _⟩ := putE_zero h
  unfold ofN
  by_cases h1 : sumE k2.data.toList s2.data.toList = 0 ∧ true = true
  · rw [if_pos h1, if_pos h1, findN_snoc]
    by_cases h3 : xs.any (Entry.is k2 s2) = true
    · rw [if_pos h3]; left; rfl
    · rw [if_neg h3]
      by_cases h4 : Entry.is k2 s2 ⟨k, s, n⟩ = true
      · right
        unfold Entry.is at h4
        simpa using h4
      · rw [if_neg h4]
        left
        rcases idxOf_cases (Entry.is k2 s2) xs with ⟨_, h5, _⟩ | ⟨_, _, _, _, _, _, h5⟩
        · exact h5
        · exact absurd h5 h3
  · rw [if_neg h1, if_neg h1]; left; rfl
theorem put_known (xs : List Entry) (k s : ByteArray) (n : Int) : (xs ++ [Entry.mk k s n]).any (Entry.is k s) = true := by
  rw [List.any_append]; simp [is_self k s n]
theorem put_chk {xs : List Entry} {k s : ByteArray} {n v v' : Int} (hx : xs.length ≤ 60) (h : putE xs k s = 0) (h1 : ChkIs xs v) (h2 : ChkIs (xs ++ [⟨k, s, n⟩]) v') : (v = 0 ∧ v' = 0) ∨ v = 2 := by
  rcases h1 with ⟨h1, _, h3⟩ | ⟨h1, _⟩
  · left
    refine ⟨h1, ?_⟩
    rcases h2 with ⟨h2, _⟩ | ⟨_, h2⟩
    · exact h2
    · obtain ⟨g1, g2, _⟩ := putE_zero h
      refine absurd ⟨by simp; omega, ?_⟩ h2
      rw [List.length_append, List.length_singleton]
      have hs : SndTo (xs ++ [⟨k, s, n⟩]) xs.length := by
        intro j e hj he
        rw [List.getElem?_append_left hj] at he
        obtain ⟨q1, q2⟩ := h3 j e hj he
        refine ⟨q1, fun i f hi hf => ?_⟩
        rw [List.getElem?_append_left (by omega)] at hf
        exact q2 i f hi hf
      refine hs.succ (e := ⟨k, s, n⟩) (by simp) (sumE_zero g1) (fun i f hi hf => ?_)
      rw [List.getElem?_append_left hi] at hf
      rw [List.any_eq_false] at g2
      have := g2 f (List.mem_of_getElem? hf)
      simpa using this
  · right; exact h1

end Go.Proofs.Ytcphcgkbjlgkiaa
