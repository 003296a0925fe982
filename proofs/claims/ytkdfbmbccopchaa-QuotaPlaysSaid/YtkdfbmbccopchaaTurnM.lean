/- Plain laws of QuotaTurn. -/
import Derived.Test.YtkdfbmbccopchaaQF
import Derived.Test.YtkdfbmbccopchaaOpenActs
namespace Go.Proofs.Ytkdfbmbccopchaa
open Go.RowKit

/-- The cells of acts. -/
def flatA (xs : List QAct) : List Value := xs.flatMap QAct.vs
theorem flatA_len (xs : List QAct) : (flatA xs).length = xs.length * 3 := by
  induction xs with
  | nil => rfl
  | cons e t ih =>
    have : flatA (e :: t) = e.vs ++ flatA t := by simp [flatA]
    rw [this, List.length_append, ih, List.length_cons, Nat.add_mul]
    simp [QAct.vs]; omega
theorem flatA_app (s t : List QAct) : flatA (s ++ t) = flatA s ++ flatA t := by simp [flatA]
theorem flatA_one (e : QAct) : flatA [e] = [.int .i64 e.k, .int .u32 e.c, .int .i64 e.i] := by simp [flatA, QAct.vs]
theorem flatA_at (s r : List QAct) (e : QAct) (i : Nat) (hi : i < 3) : (flatA (s ++ e :: r))[s.length * 3 + i]? = e.vs[i]? := by
  rw [show s ++ e :: r = s ++ ([e] ++ r) from rfl, flatA_app, flatA_app, List.getElem?_append_right (by rw [flatA_len]; omega), flatA_len, show s.length * 3 + i - s.length * 3 = i by omega,
    List.getElem?_append_left (by rw [flatA_len]; simp; omega), flatA_one]
  rfl
theorem flatA_get {xs : List QAct} {j : Nat} {e : QAct} (h : xs[j]? = some e) (i : Nat) (hi : i < 3) : (flatA xs)[j * 3 + i]? = e.vs[i]? := by
  obtain ⟨hj, rfl⟩ := List.getElem?_eq_some_iff.1 h
  have e1 : xs = xs.take j ++ xs[j] :: xs.drop (j + 1) := by simp
  have := flatA_at (xs.take j) (xs.drop (j + 1)) xs[j] i hi
  rw [← e1, List.length_take, Nat.min_eq_left (by omega)] at this
  exact this
theorem flatA_one' {xs : List QAct} : ∀ u ∈ flatA xs, u.oneCell' = true := by
  intro u hu
  obtain ⟨e, _, he⟩ := List.mem_flatMap.1 hu
  simp [QAct.vs] at he
  rcases he with rfl | rfl | rfl <;> rfl
def isC (a : Int) (e : QAct) : Bool := decide (e.c = a)
/-- What was put and is not taken yet is what waits. -/
structure Agree (put : List QAct) (cl : Cl) : Prop where
  get : ∀ a, (put.filter (isC a)).map QAct.i = getC cl a
  many : manyC cl = put.length
theorem Agree.nil : Agree [] [] := ⟨fun a => rfl, rfl⟩
theorem Agree.put {put : List QAct} {cl : Cl} (h : Agree put cl) (e : QAct) : Agree (put ++ [e]) (addC cl e.c e.i) := by
  refine ⟨fun a => ?_, by rw [addC_many, h.many, List.length_append]; rfl⟩
  rw [addC_get, List.filter_append, List.map_append, h.get a]
  by_cases hc : a = e.c
  · rw [if_pos hc, List.filter_cons, show isC a e = true from by simp [isC, hc]]
    subst hc; rfl
  · rw [if_neg hc, List.filter_cons, show isC a e = false from by simp [isC]; exact fun h => hc h.symm]
    simp
theorem Agree.getLen {put : List QAct} {cl : Cl} (h : Agree put cl) (a : Int) : (getC cl a).length ≤ put.length := by
  rw [← h.get a, List.length_map]
  exact List.length_filter_le _ _
theorem len_many : ∀ {cl : Cl}, (∀ p ∈ cl, p.2 ≠ []) → cl.length ≤ manyC cl
  | [], _ => Nat.zero_le _
  | p :: t, h => by
    rw [manyC_cons, List.length_cons]
    have := len_many (cl := t) fun q hq => h q (by simp [hq])
    have := List.length_pos_iff.2 (h p (by simp))
    omega
theorem Agree.len {put : List QAct} {cl : Cl} (h : Agree put cl) (hk : OkC cl) : cl.length ≤ put.length := by
  rw [← h.many]; exact len_many fun p hp => (hk.ok p hp).2.2
/-- The one that is taken. -/
theorem Agree.take {put : List QAct} {cl : Cl} (h : Agree put cl) (hk : OkC cl) (hp : 0 < put.length) :
    ∃ (a x : Int) (l : List Int) (t : Cl) (s r : List QAct) (e : QAct), cl = (a, x :: l) :: t ∧ put = s ++ e :: r ∧ (∀ y ∈ s, y.c ≠ a) ∧ e.c = a ∧ e.i = x ∧ (∀ p ∈ t, p.1 ≠ a) ∧
      nextQ cl = ((if l = [] then t else t ++ [(a, l)]), a, x, true) ∧ Agree (s ++ r) (nextQ cl).1 := by
  match cl, h, hk with
  | [], h, _ =>
    have := h.many
    simp [manyC] at this
    omega
  | (a, []) :: t, _, hk => exact absurd rfl (hk.ok (a, []) (by simp)).2.2
  | (a, x :: l) :: t, h, hk =>
    have hg := h.get a
    have e1 : getC ((a, x :: l) :: t) a = x :: l := by simp [getC]
    rw [e1] at hg
    have hnod : ∀ p ∈ t, p.1 ≠ a := fun p hp e => (List.nodup_cons.1 hk.nodup).1 (List.mem_map.2 ⟨p, hp, e⟩)
    obtain ⟨e, rest, hf, he, hrest⟩ := List.map_eq_cons_iff.1 hg
    obtain ⟨s, r, hs, hns, hce, hfr⟩ := List.filter_eq_cons_iff.1 hf
    have hns' : ∀ y ∈ s, y.c ≠ a := fun y hy e => hns y hy (by simp [isC, e])
    have hce' : e.c = a := by simpa [isC] using hce
    have hnx : nextQ ((a, x :: l) :: t) = ((if l = [] then t else t ++ [(a, l)]), a, x, true) := rfl
    refine ⟨a, x, l, t, s, r, e, rfl, hs, hns', hce', he, hnod, hnx, fun b => ?_, ?_⟩
    · rw [hnx]
      show _ = getC (if l = [] then t else t ++ [(a, l)]) b
      have hb := h.get b
      rw [hs, List.filter_append, List.filter_cons, List.map_append] at hb
      rw [List.filter_append, List.map_append]
      by_cases hba : b = a
      · subst hba
        have hs0 : s.filter (isC b) = [] := List.filter_eq_nil_iff.2 fun y hy => by simp [isC, hns' y hy]
        rw [hs0, hfr, hrest]
        by_cases hl : l = []
        · rw [if_pos hl, getC_none hnod, hl]; rfl
        · rw [if_neg hl, getC_append _ _ _ _ hnod, if_pos rfl]; rfl
      · have hne : isC b e = false := by simp [isC, hce']; exact fun h => hba h.symm
        rw [hne] at hb
        have e2 : getC ((a, x :: l) :: t) b = getC t b := by
          show (if a = b then _ else _) = _
          rw [if_neg fun h => hba h.symm]
        rw [e2] at hb
        by_cases hl : l = []
        · rw [if_pos hl]; exact hb
        · rw [if_neg hl, getC_append _ _ _ _ hnod, if_neg hba]; exact hb
    · rw [hnx]
      show manyC (if l = [] then t else t ++ [(a, l)]) = _
      have hm := h.many
      rw [manyC_cons, hs, List.length_append, List.length_cons] at hm
      rw [List.length_append]
      simp only [List.length_cons] at hm
      by_cases hl : l = []
      · rw [if_pos hl]; subst hl; simp at hm; omega
      · rw [if_neg hl, manyC_append]
        have : manyC [(a, l)] = l.length := by simp [manyC]
        omega
theorem next_keys (a : Int) (l : List Int) (t : Cl) : ∃ z, (if l = [] then t else t ++ [(a, l)]).map (fun p => u32V p.1) = t.map (fun p => u32V p.1) ++ z := by
  by_cases hl : l = []
  · rw [if_pos hl]; exact ⟨[], by simp⟩
  · rw [if_neg hl, List.map_append]; exact ⟨_, rfl⟩
end Go.Proofs.Ytkdfbmbccopchaa
