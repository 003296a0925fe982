/- The order of texts, and of lists of texts. Plain: no program in sight. Conditions: none. -/
import Derived.Test.YtfipacfompihkaaLabelMath
import Derived.ProofKit
namespace Go.Proofs.Ytfipacfompihkaa

/-- A comparison that is a total order's. -/
structure TotC {α : Type} (c : α → α → Int) : Prop where
  zero : ∀ x y, c x y = 0 ↔ x = y
  anti : ∀ x y, c x y = - c y x
  trans : ∀ x y z, c x y < 0 → c y z < 0 → c x z < 0
/-- List by list. -/
def lexC {α : Type} (c : α → α → Int) : List α → List α → Int
  | [], [] => 0
  | [], _ :: _ => -1
  | _ :: _, [] => 1
  | x :: xs, y :: ys => if c x y = 0 then lexC c xs ys else c x y
section
variable {α : Type} {c : α → α → Int}
theorem lexC_tot (h : TotC c) : TotC (lexC c) := by
  refine ⟨?_, ?_, ?_⟩
  · intro x
    induction x with
    | nil => intro y; cases y <;> simp [lexC]
    | cons a t ih =>
      intro y
      cases y with
      | nil => simp [lexC]
      | cons b u =>
        simp only [lexC]
        by_cases h0 : c a b = 0
        · rw [if_pos h0, ih]
          have := (h.zero a b).1 h0
          subst this
          simp
        · rw [if_neg h0]
          constructor
          · intro h1; exact absurd h1 h0
          · intro h1
            injection h1 with h1 h2
            exact absurd ((h.zero a b).2 h1) h0
  · intro x
    induction x with
    | nil => intro y; cases y <;> simp [lexC]
    | cons a t ih =>
      intro y
      cases y with
      | nil => simp [lexC]
      | cons b u =>
        simp only [lexC]
        have h1 := h.anti a b
        by_cases h0 : c a b = 0
        · rw [if_pos h0, if_pos (by omega), ih]
        · rw [if_neg h0, if_neg (by omega), h1]
  · intro x
    induction x with
    | nil =>
      intro y z h1 h2
      cases y with
      | nil => simp [lexC] at h1
      | cons b u =>
        cases z with
        | nil => simp [lexC] at h2
        | cons d v => simp [lexC]
    | cons a t ih =>
      intro y z h1 h2
      cases y with
      | nil => simp [lexC] at h1
      | cons b u =>
        cases z with
        | nil => simp [lexC] at h2
        | cons d v =>
          simp only [lexC] at h1 h2 ⊢
          by_cases e1 : c a b = 0
          · rw [if_pos e1] at h1
            have := (h.zero a b).1 e1
            subst this
            by_cases e2 : c a d = 0
            · rw [if_pos e2] at h2 ⊢
              exact ih _ _ h1 h2
            · rw [if_neg e2] at h2 ⊢
              exact h2
          · rw [if_neg e1] at h1
            by_cases e2 : c b d = 0
            · have := (h.zero b d).1 e2
              subst this
              rw [if_neg e1]
              exact h1
            · rw [if_neg e2] at h2
              have h3 := h.trans a b d h1 h2
              rw [if_neg (by omega)]
              exact h3
theorem lexC_append (h : TotC c) (l : List α) (x : α) (r : List α) : lexC c l (l ++ x :: r) < 0 := by
  induction l with
  | nil => simp [lexC]
  | cons a t ih =>
    show lexC c (a :: t) (a :: (t ++ x :: r)) < 0
    simp only [lexC]
    rw [if_pos ((h.zero a a).2 rfl)]
    exact ih
/-- What stands between a list and one that begins with it begins with it, too. -/
theorem lexC_between (h : TotC c) : ∀ (l m r : List α), lexC c l m < 0 → lexC c m (l ++ r) < 0 → l <+: m
  | [], m, _, _, _ => List.nil_prefix
  | a :: t, [], _, h1, _ => by simp [lexC] at h1
  | a :: t, b :: u, r, h1, h2 => by
    have h2' : lexC c (b :: u) (a :: (t ++ r)) < 0 := h2
    simp only [lexC] at h1 h2'
    have h3 := h.anti a b
    by_cases e1 : c a b = 0
    · rw [if_pos e1] at h1
      rw [if_pos (by omega)] at h2'
      have := (h.zero a b).1 e1
      subst this
      obtain ⟨s, hs⟩ := lexC_between h t u r h1 h2'
      exact ⟨s, by rw [← hs]; rfl⟩
    · rw [if_neg e1] at h1
      rw [if_neg (by omega)] at h2'
      omega
end
def cB (a b : UInt8) : Int := if a < b then -1 else if a = b then 0 else 1
theorem cB_tot : TotC cB := by
  refine ⟨fun x y => ?_, fun x y => ?_, fun x y z => ?_⟩
  · unfold cB
    constructor
    · intro h
      split at h
      · omega
      · split at h
        · assumption
        · omega
    · rintro rfl
      rw [if_neg (by rw [UInt8.lt_iff_toNat_lt]; omega), if_pos rfl]
  · unfold cB
    have e : ∀ a b : UInt8, a = b ↔ a.toNat = b.toNat := fun a b => ⟨fun h => by rw [h], fun h => UInt8.toNat_inj.1 h⟩
    simp only [UInt8.lt_iff_toNat_lt, e]
    split <;> split <;> (try split) <;> (try split) <;> omega
  · unfold cB
    have e : ∀ a b : UInt8, a = b ↔ a.toNat = b.toNat := fun a b => ⟨fun h => by rw [h], fun h => UInt8.toNat_inj.1 h⟩
    simp only [UInt8.lt_iff_toNat_lt, e]
    intro h1 h2
    split at h1
    · split at h2
      · rw [if_pos (by omega)]; omega
      · split at h2 <;> omega
    · split at h1 <;> omega
abbrev ltS (p q : Bs) : Bool := Op.bytesLess p q
theorem ltS_iff : ∀ p q : Bs, ltS p q = true ↔ lexC cB p q < 0
  | [], [] => by simp [ltS, Op.bytesLess, lexC]
  | [], b :: u => by simp [ltS, Op.bytesLess, lexC]
  | a :: t, [] => by simp [ltS, Op.bytesLess, lexC]
  | a :: t, b :: u => by
    have ih := ltS_iff t u
    simp only [ltS] at ih
    simp only [ltS, Op.bytesLess, lexC, Bool.or_eq_true, Bool.and_eq_true, ih, decide_eq_true_eq, beq_iff_eq]
    by_cases h1 : a < b
    · have : cB a b = -1 := by unfold cB; rw [if_pos h1]
      simp [this, h1]
    · by_cases h2 : a = b
      · have : cB a b = 0 := by unfold cB; rw [if_neg h1, if_pos h2]
        rw [if_pos this]
        simp [h2, UInt8.lt_irrefl]
      · have : cB a b = 1 := by unfold cB; rw [if_neg h1, if_neg h2]
        simp [this, h1, h2]
theorem ltS_lex (p q : Bs) : ltS p q = decide (lexC cB p q < 0) := by
  rw [Bool.eq_iff_iff, ltS_iff, decide_eq_true_iff]
def cmpS (p q : Bs) : Int := if ltS p q = true then -1 else if p = q then 0 else 1
theorem cmpS_sign (p q : Bs) : (cmpS p q < 0 ↔ lexC cB p q < 0) ∧ (cmpS p q = 0 ↔ p = q) ∧ (cmpS p q = -1 ∨ cmpS p q = 0 ∨ cmpS p q = 1) := by
  have h := ltS_lex p q
  have hz := (lexC_tot cB_tot).zero p q
  unfold cmpS
  by_cases h1 : lexC cB p q < 0
  · have h2 : ltS p q = true := by rw [h]; simpa using h1
    rw [if_pos h2]
    have : p ≠ q := fun e => by have := hz.2 e; omega
    simp [h1, this]
  · have h2 : ¬ ltS p q = true := by rw [h]; simpa using h1
    rw [if_neg h2]
    by_cases h3 : p = q
    · rw [if_pos h3]; simp [h1, h3]; (try (have := hz.2 h3; subst h3; omega))
    · rw [if_neg h3]; simp [h1, h3]
theorem cmpS_tot : TotC cmpS := by
  have T := lexC_tot cB_tot
  refine ⟨fun x y => (cmpS_sign x y).2.1, fun x y => ?_, fun x y z h1 h2 => ?_⟩
  · have s1 := cmpS_sign x y
    have s2 := cmpS_sign y x
    have a := T.anti x y
    have z := T.zero x y
    have e : (x = y) ↔ (y = x) := ⟨Eq.symm, Eq.symm⟩
    rcases s1.2.2 with h | h | h <;> rcases s2.2.2 with k | k | k
    · have := s1.1.1 (by omega); have := s2.1.1 (by omega); omega
    · have := s2.2.1.1 k; have := s1.2.1.2 this.symm; omega
    · omega
    · have := s1.2.1.1 h; have := s2.2.1.2 this.symm; omega
    · omega
    · have := s1.2.1.1 h; have := s2.2.1.2 this.symm; omega
    · omega
    · have := s2.2.1.1 k; have := s1.2.1.2 this.symm; omega
    · have h1 : ¬ lexC cB x y < 0 := fun q => by have := s1.1.2 q; omega
      have h2 : ¬ lexC cB y x < 0 := fun q => by have := s2.1.2 q; omega
      have : lexC cB x y = 0 := by omega
      have := s1.2.1.2 (z.1 this)
      omega
  · exact (cmpS_sign x z).1.2 (T.trans x y z ((cmpS_sign x y).1.1 h1) ((cmpS_sign y z).1.1 h2))
/-- The comparison of lists of texts. -/
abbrev cmpL : List Bs → List Bs → Int := lexC cmpS
theorem cmpL_tot : TotC cmpL := lexC_tot cmpS_tot
theorem cmpL_val : ∀ x y : List Bs, cmpL x y = -1 ∨ cmpL x y = 0 ∨ cmpL x y = 1
  | [], [] => by simp [cmpL, lexC]
  | [], _ :: _ => by simp [cmpL, lexC]
  | _ :: _, [] => by simp [cmpL, lexC]
  | a :: t, b :: u => by
    simp only [cmpL, lexC]
    split
    · exact cmpL_val t u
    · exact (cmpS_sign a b).2.2
theorem cmpL_same (l : List Bs) (x y : List Bs) : cmpL (l ++ x) (l ++ y) = cmpL x y := by
  induction l with
  | nil => rfl
  | cons a t ih =>
    show lexC cmpS (a :: (t ++ x)) (a :: (t ++ y)) = _
    simp only [lexC]
    rw [if_pos ((cmpS_tot.zero a a).2 rfl)]
    exact ih
end Go.Proofs.Ytfipacfompihkaa
