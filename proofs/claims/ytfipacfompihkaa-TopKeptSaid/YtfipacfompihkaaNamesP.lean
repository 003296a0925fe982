/- Plain laws of names: what lies within what. No program in sight. Conditions: none. -/
import Derived.Test.YtfipacfompihkaaWithin
namespace Go.Proofs.Ytfipacfompihkaa

/-- What is left behind some labels is a name again. -/
theorem drop_labs {l : Bs} (h : isName l = true) (k : Nat) : labs (l.drop (pos (labs l).1 k)) = ((labs l).1.drop k, [0]) := by
  rw [labs_drop, ((isName_iff l).1 h).2]
theorem drop_name {l : Bs} (h : isName l = true) (k : Nat) : isName (l.drop (pos (labs l).1 k)) = true := by
  rw [isName_iff, drop_labs h]
  have := ((isName_iff l).1 h).1
  exact ⟨by simp; omega, rfl⟩
theorem pos_split (ls : List Bs) {i j : Nat} (h : i ≤ j) : pos ls j = pos ls i + pos (ls.drop i) (j - i) := by
  obtain ⟨k, rfl⟩ : ∃ k, j = i + k := ⟨j - i, by omega⟩
  unfold pos
  rw [List.take_add, Nat.add_sub_cancel_left, enc_append, List.length_append]
theorem foldB_enc : ∀ ls : List Bs, (∀ x ∈ ls, okL x) → foldB (enc ls) = enc (ls.map foldB)
  | [], _ => rfl
  | x :: xs, h => by
    have hx := h x (by simp)
    unfold okL at hx
    have e : lowB (UInt8.ofNat x.length) = UInt8.ofNat x.length := by
      unfold lowB
      rw [if_neg]
      rw [UInt8.toNat_ofNat']
      omega
    have ih := foldB_enc xs (fun y hy => h y (by simp [hy]))
    have e2 : foldB (enc (x :: xs)) = lowB (UInt8.ofNat x.length) :: (foldB x ++ foldB (enc xs)) := by simp [enc, foldB]
    rw [e2, e, ih]
    simp [enc, foldB_length]
theorem foldB_mk {ls : List Bs} (h : ∀ x ∈ ls, okL x) : foldB (mk ls) = mk (ls.map foldB) := by
  unfold mk
  have : foldB (enc ls ++ [0]) = foldB (enc ls) ++ [0] := by simp [foldB, lowB]
  rw [this, foldB_enc ls h]
theorem fold_name {l : Bs} (h : isName l = true) : foldB l = mk ((labs l).1.map foldB) := by
  conv => lhs; rw [← mk_labs h]
  exact foldB_mk (labs_ok l)
theorem fold_eq_iff {a b : Bs} (ha : isName a = true) (hb : isName b = true) : foldB a = foldB b ↔ (labs a).1.map foldB = (labs b).1.map foldB := by
  constructor
  · intro h
    have h1 := labs_fold a
    have h2 := labs_fold b
    rw [h] at h1
    rw [h1] at h2
    exact congrArg Prod.fst h2
  · intro h
    rw [fold_name ha, fold_name hb, h]
theorem beg_iff {l : Bs} {m : Nat} : begL m (endsL l) = true ↔ ∃ k, k ≤ (labs l).1.length ∧ m = pos (labs l).1 k := by
  unfold begL endsL
  simp only [Bool.or_eq_true, decide_eq_true_eq, List.mem_map, List.mem_range]
  constructor
  · rintro (h | ⟨t, ht, h⟩)
    · exact ⟨0, Nat.zero_le _, by rw [pos_zero]; exact h⟩
    · exact ⟨t + 1, ht, h.symm⟩
  · rintro ⟨k, hk, h⟩
    cases k with
    | zero => left; rw [pos_zero] at h; exact h
    | succ t => exact .inr ⟨t, hk, h.symm⟩
/-- The one lies within the other: both are names, and the labels of the other are the last ones of the first, but for small letters. -/
theorem within_iff (a z : Bs) : withinB a z = true ↔ isName a = true ∧ isName z = true ∧ (labs z).1.map foldB <:+ (labs a).1.map foldB := by
  unfold withinB
  simp only [Bool.and_eq_true, decide_eq_true_eq, beq_iff_eq, beg_iff]
  constructor
  · rintro ⟨ha, hz, hle, ⟨k, hk, hm⟩, hf⟩
    refine ⟨ha, hz, ?_⟩
    rw [hm] at hf
    have h1 := (fold_eq_iff (drop_name ha k) hz).1 hf
    rw [drop_labs ha] at h1
    rw [← h1, List.map_drop]
    exact List.drop_suffix _ _
  · rintro ⟨ha, hz, hs⟩
    obtain ⟨k, hk, hd⟩ : ∃ k, k ≤ (labs a).1.length ∧ (labs z).1.map foldB = ((labs a).1.map foldB).drop k := by
      obtain ⟨p, hp⟩ := hs
      refine ⟨p.length, ?_, ?_⟩
      · have := congrArg List.length hp; simp at this; omega
      · rw [← hp, List.drop_left]
    have hf : foldB (a.drop (pos (labs a).1 k)) = foldB z := by
      rw [fold_eq_iff (drop_name ha k) hz, drop_labs ha, hd, List.map_drop]
    have hl := congrArg List.length hf
    rw [foldB_length, foldB_length, List.length_drop] at hl
    have hp := pos_le (labs a).1 k
    have he := enc_le a
    have hm : a.length - z.length = pos (labs a).1 k := by omega
    exact ⟨ha, hz, by omega, ⟨k, hk, hm⟩, by rw [hm]; exact hf⟩
theorem withinB_eq (a z : Bs) : withinB a z = decide (isName a = true ∧ isName z = true ∧ (labs z).1.map foldB <:+ (labs a).1.map foldB) := by
  rw [Bool.eq_iff_iff, within_iff]; simp
theorem within_drop {l : Bs} (h : isName l = true) {i j : Nat} (hij : i ≤ j) : withinB (l.drop (pos (labs l).1 i)) (l.drop (pos (labs l).1 j)) = true := by
  rw [within_iff, drop_labs h, drop_labs h]
  refine ⟨drop_name h i, drop_name h j, ?_⟩
  rw [List.map_drop, List.map_drop]
  obtain ⟨k, rfl⟩ : ∃ k, j = i + k := ⟨j - i, by omega⟩
  rw [← List.drop_drop]
  exact List.drop_suffix _ _
theorem drop_zero_pos (l : Bs) : l.drop (pos (labs l).1 0) = l := by rw [pos_zero]; rfl
theorem within_refl {l : Bs} (h : isName l = true) : withinB l l = true := by
  have := within_drop h (Nat.le_refl 0)
  rwa [drop_zero_pos] at this
theorem within_no {a z : Bs} (h : isName a = false) : withinB a z = false := by unfold withinB; rw [h]; rfl
theorem within_no2 {a z : Bs} (h : isName z = false) : withinB a z = false := by unfold withinB; rw [h]; simp
theorem within_trans {a b c : Bs} (h1 : withinB a b = true) (h2 : withinB b c = true) : withinB a c = true := by
  rw [within_iff] at *
  exact ⟨h1.1, h2.2.1, h2.2.2.trans h1.2.2⟩
theorem within_len {a b : Bs} (h : withinB a b = true) : (labs b).1.length ≤ (labs a).1.length := by
  rw [within_iff] at h
  have := h.2.2.length_le
  simpa using this
theorem root_name : isName [0] = true := by decide
theorem root_labs : (labs [0]).1 = [] := by decide
theorem within_root {a : Bs} (h : isName a = true) : withinB a [0] = true := by
  rw [within_iff, root_labs]
  exact ⟨h, root_name, List.nil_suffix⟩
/-- The labels of a name in small letters. -/
def lowL (l : Bs) : List Bs := (labs l).1.map foldB
theorem lowL_drop {a : Bs} (h : isName a = true) (k : Nat) : lowL (a.drop (pos (labs a).1 k)) = (lowL a).drop k := by
  unfold lowL
  rw [drop_labs h, List.map_drop]
theorem within_low {a z : Bs} (ha : isName a = true) (hz : isName z = true) : withinB a z = true ↔ lowL z <:+ lowL a := by
  rw [within_iff]
  exact ⟨fun h => h.2.2, fun h => ⟨ha, hz, h⟩⟩
theorem suffix_drop {α : Type} {l m : List α} (h : l <:+ m) : l = m.drop (m.length - l.length) := by
  obtain ⟨t, rfl⟩ := h
  simp
end Go.Proofs.Ytfipacfompihkaa
