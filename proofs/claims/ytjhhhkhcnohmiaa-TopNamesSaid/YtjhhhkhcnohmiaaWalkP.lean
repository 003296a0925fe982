/- Plain laws of what two names have in common, and of their order. No program in sight. Conditions: none. -/
import Derived.Test.YtjhhhkhcnohmiaaCommon
import Derived.Test.YtjhhhkhcnohmiaaLess
namespace Go.Proofs.Ytjhhhkhcnohmiaa

/-- The labels of a name in small letters. -/
def lowL (l : Bs) : List Bs := (labs l).1.map foldB
theorem lowL_drop {a : Bs} (h : isName a = true) (k : Nat) : lowL (a.drop (pos (labs a).1 k)) = (lowL a).drop k := by
  unfold lowL
  rw [drop_labs h, List.map_drop]
theorem within_low {a z : Bs} (ha : isName a = true) (hz : isName z = true) : withinB a z = true ↔ lowL z <:+ lowL a := by
  rw [within_iff]
  exact ⟨fun h => h.2.2, fun h => ⟨ha, hz, h⟩⟩
theorem same_low {a z : Bs} (ha : isName a = true) (hz : isName z = true) : sameB a z = true ↔ lowL a = lowL z := by
  unfold sameB
  rw [ha, hz]
  simp only [Bool.true_and, Bool.and_eq_true, decide_eq_true_eq, beq_iff_eq]
  rw [fold_eq_iff ha hz]
  constructor
  · rintro ⟨_, h⟩; exact h
  · intro h
    refine ⟨?_, h⟩
    have h1 := (fold_eq_iff ha hz).2 h
    have := congrArg List.length h1
    rwa [foldB_length, foldB_length] at this
/-- What two names have in common is the longest tail that both have. -/
theorem com_spec {a b : Bs} (ha : isName a = true) (hb : isName b = true) : ∃ k, k ≤ (labs a).1.length ∧ comB a b = a.drop (pos (labs a).1 k) ∧ (lowL a).drop k <:+ lowL b ∧ ∀ j, j < k → ¬ (lowL a).drop j <:+ lowL b := by
  cases hf : (upsL a).find? (fun n => withinB b n) with
  | none =>
    exfalso
    have := List.find?_eq_none.1 hf _ (root_ups ha)
    rw [within_root hb] at this
    exact this rfl
  | some x =>
    rw [List.find?_eq_some_iff_getElem] at hf
    obtain ⟨hx, k, hk, hxk, hn⟩ := hf
    have hk2 := hk
    rw [ups_length ha] at hk2
    have hget : ∀ (j : Nat) (hj : j < (upsL a).length), (upsL a)[j] = a.drop (pos (labs a).1 j) := fun j hj => by
      simp [ups_yes ha]
    rw [hget] at hxk
    refine ⟨k, by omega, ?_, ?_, fun j hj h => ?_⟩
    · unfold comB
      rw [show (upsL a).find? (fun n => withinB b n) = some x from by
        rw [List.find?_eq_some_iff_getElem]
        exact ⟨hx, k, hk, by rw [hget]; exact hxk, hn⟩]
      exact hxk.symm
    · rw [← hxk, within_low hb (drop_name ha k), lowL_drop ha] at hx
      exact hx
    · have h1 := hn j hj
      rw [hget] at h1
      have h2 := (within_low hb (drop_name ha j)).2 (by rw [lowL_drop ha]; exact h)
      rw [h2] at h1
      cases h1
theorem com_name {a b : Bs} (ha : isName a = true) (hb : isName b = true) : isName (comB a b) = true := by
  obtain ⟨k, _, h, _⟩ := com_spec ha hb
  rw [h]; exact drop_name ha k
theorem suffix_drop {α : Type} {l m : List α} (h : l <:+ m) : l = m.drop (m.length - l.length) := by
  obtain ⟨t, rfl⟩ := h
  simp
/-- Who lies within both lies above what they have in common. -/
theorem com_low {a b : Bs} (ha : isName a = true) (hb : isName b = true) : (lowL (comB a b) <:+ lowL a ∧ lowL (comB a b) <:+ lowL b) ∧ ∀ z, z <:+ lowL a → z <:+ lowL b → z <:+ lowL (comB a b) := by
  obtain ⟨k, hk, h1, h2, h3⟩ := com_spec ha hb
  have e : lowL (comB a b) = (lowL a).drop k := by rw [h1, lowL_drop ha]
  rw [e]
  refine ⟨⟨List.drop_suffix _ _, h2⟩, fun z hz1 hz2 => ?_⟩
  have hz := suffix_drop hz1
  have hle : k ≤ (lowL a).length - z.length := by
    apply Decidable.byContradiction
    intro hlt
    exact h3 ((lowL a).length - z.length) (by omega) (by rw [← hz]; exact hz2)
  have : z = ((lowL a).drop k).drop ((lowL a).length - z.length - k) := by
    rw [List.drop_drop, show k + ((lowL a).length - z.length - k) = (lowL a).length - z.length by omega]
    exact hz
  rw [this]
  exact List.drop_suffix _ _
theorem com_same {a b : Bs} (ha : isName a = true) (hb : isName b = true) : sameB (comB a b) (comB b a) = true := by
  rw [same_low (com_name ha hb) (com_name hb ha)]
  obtain ⟨⟨h1, h2⟩, h3⟩ := com_low ha hb
  obtain ⟨⟨g1, g2⟩, g3⟩ := com_low hb ha
  have e1 := h3 _ g2 g1
  have e2 := g3 _ h2 h1
  exact e2.eq_of_length (Nat.le_antisymm e2.length_le e1.length_le)
theorem com_within {a b : Bs} (ha : isName a = true) (hb : isName b = true) : withinB a (comB a b) = true ∧ withinB b (comB a b) = true := by
  obtain ⟨⟨h1, h2⟩, _⟩ := com_low ha hb
  exact ⟨(within_low ha (com_name ha hb)).2 h1, (within_low hb (com_name ha hb)).2 h2⟩
theorem com_beyond {a b c : Bs} (ha : isName a = true) (hb : isName b = true) (h1 : withinB a c = true) (h2 : withinB b c = true) : withinB (comB a b) c = true := by
  have hc : isName c = true := ((within_iff _ _).1 h1).2.1
  rw [within_low (com_name ha hb) hc]
  exact (com_low ha hb).2 _ ((within_low ha hc).1 h1) ((within_low hb hc).1 h2)

theorem ris_low {a : Bs} (h : isName a = true) : ris a = (lowL a).reverse := by
  unfold ris lowL
  rw [namL_yes (by rw [isName_fold]; exact h), labs_fold]
theorem less_low {a b : Bs} (ha : isName a = true) (hb : isName b = true) : lessP a b = decide (cmpL (lowL a).reverse (lowL b).reverse < 0) := by
  unfold lessP
  rw [ha, hb, Bool.true_and, Bool.true_and, ris_low ha, ris_low hb]
/-- One stands ahead, or they are one. -/
theorem less_three {a b : Bs} (ha : isName a = true) (hb : isName b = true) :
    (lessP a b = true ∧ lessP b a = false ∧ sameB a b = false) ∨ (lessP a b = false ∧ lessP b a = true ∧ sameB a b = false) ∨ (lessP a b = false ∧ lessP b a = false ∧ sameB a b = true) := by
  rw [less_low ha hb, less_low hb ha]
  have h1 := cmpL_tot.anti (lowL a).reverse (lowL b).reverse
  have h2 := cmpL_tot.zero (lowL a).reverse (lowL b).reverse
  have h3 : sameB a b = decide (lowL a = lowL b) := by
    rw [Bool.eq_iff_iff, same_low ha hb, decide_eq_true_iff]
  rw [h3]
  rw [List.reverse_inj] at h2
  by_cases e : cmpL (lowL a).reverse (lowL b).reverse = 0
  · right; right
    refine ⟨decide_eq_false (by omega), decide_eq_false (by omega), decide_eq_true (h2.1 e)⟩
  · have hne : ¬ lowL a = lowL b := fun h => e (h2.2 h)
    by_cases hlt : cmpL (lowL a).reverse (lowL b).reverse < 0
    · left
      exact ⟨decide_eq_true hlt, decide_eq_false (by omega), decide_eq_false hne⟩
    · right; left
      exact ⟨decide_eq_false hlt, decide_eq_true (by omega), decide_eq_false hne⟩
theorem less_trans {a b c : Bs} (h1 : lessP a b = true) (h2 : lessP b c = true) : lessP a c = true := by
  unfold lessP at *
  simp only [Bool.and_eq_true, decide_eq_true_eq] at *
  exact ⟨h1.1, h2.2.1, cmpL_tot.trans _ _ _ h1.2.2 h2.2.2⟩
theorem less_par {a : Bs} (ha : isName a = true) (h1 : a ≠ [0]) : lessP (parL a) a = true := by
  rw [less_low (parL_name ha h1) ha, decide_eq_true_iff]
  have h2 := name_first ha h1
  have e : lowL (parL a) = (lowL a).drop 1 := by unfold lowL; rw [parL_namL ha h1, List.map_drop]
  rw [e]
  obtain ⟨x, r, hx⟩ : ∃ x r, lowL a = x :: r := by
    cases h : lowL a with
    | nil => unfold lowL at h; rw [List.map_eq_nil_iff] at h; rw [h] at h2; simp at h2
    | cons x r => exact ⟨x, r, rfl⟩
  rw [hx]
  simp only [List.drop_succ_cons, List.drop_zero, List.reverse_cons]
  exact lexC_append cmpS_tot _ _ _
/-- What stands between a name and one within it lies within it, too. -/
theorem less_between {a b c : Bs} (h : withinB c a = true) (h1 : lessP a b = true) (h2 : lessP b c = true) : withinB b a = true := by
  have hn := (within_iff _ _).1 h
  have hb : isName b = true := by unfold lessP at h2; simp only [Bool.and_eq_true] at h2; exact h2.1
  rw [less_low hn.2.1 hb, decide_eq_true_iff] at h1
  rw [less_low hb hn.1, decide_eq_true_iff] at h2
  rw [within_low hb hn.2.1, ← List.reverse_prefix]
  obtain ⟨t, ht⟩ := (within_low hn.1 hn.2.1).1 h
  rw [← ht, List.reverse_append] at h2
  exact lexC_between cmpS_tot _ _ _ h1 h2
end Go.Proofs.Ytjhhhkhcnohmiaa
