/- The order of texts, and of lists of texts. Plain: no program in sight. Conditions: none. Stable orders of lists by a key. Plain: no program in sight. Conditions: none. Plain laws of a stable merge. Plain: no program in sight. Conditions: none. -/
import Derived.Test.YthnngndnpigjbaaGreatLabelMath
import Derived.ProofKit
namespace Go.Proofs.YthnngndnpigjbaaGreat

/-- A comparison that is a total order's. -/
structure TotC {α : Type} (c : α → α → Int) : Prop where
  zero : ∀ x y, c x y = 0 ↔ x = y
  anti : ∀ x y, c x y = - c y x
  trans : ∀ x y z, c x y < 0 → c y z < 0 → c x z < 0
/-- List by list. -/
def lexC {α : Type} (c : α → α → Int) : List α → List α → Int
  | [], [] => 0
  | [], _ :: _ => -1
  | _ :: _, [] => 1
  | x :: xs, y :: ys => if c x y = 0 then lexC c xs ys else c x y
section
variable {α : Type} {c : α → α → Int}
theorem lexC_tot (h : TotC c) : TotC (lexC c) := by
  refine ⟨?_, ?_, ?_⟩
  · intro x
    induction x with
    | nil => intro y; cases y <;> simp [lexC]
    | cons a t ih =>
      intro y
      cases y with
      | nil => simp [lexC]
      | cons b u =>
        simp only [lexC]
        by_cases h0 : c a b = 0
        · rw [if_pos h0, ih]
          have := (h.zero a b).1 h0
          subst this
          simp
        · rw [if_neg h0]
          constructor
          · intro h1; exact absurd h1 h0
          · intro h1
            injection h1 with h1 h2
            exact absurd ((h.zero a b).2 h1) h0
  · intro x
    induction x with
    | nil => intro y; cases y <;> simp [lexC]
    | cons a t ih =>
      intro y
      cases y with
      | nil => simp [lexC]
      | cons b u =>
        simp only [lexC]
        have h1 := h.anti a b
        by_cases h0 : c a b = 0
        · rw [if_pos h0, if_pos (by omega), ih]
        · rw [if_neg h0, if_neg (by omega), h1]
  · intro x
    induction x with
    | nil =>
      intro y z h1 h2
      cases y with
      | nil => simp [lexC] at h1
      | cons b u =>
        cases z with
        | nil => simp [lexC] at h2
        | cons d v => simp [lexC]
    | cons a t ih =>
      intro y z h1 h2
      cases y with
      | nil => simp [lexC] at h1
      | cons b u =>
        cases z with
        | nil => simp [lexC] at h2
        | cons d v =>
          simp only [lexC] at h1 h2 ⊢
          by_cases e1 : c a b = 0
          · rw [if_pos e1] at h1
            have := (h.zero a b).1 e1
            subst this
            by_cases e2 : c a d = 0
            · rw [if_pos e2] at h2 ⊢
              exact ih _ _ h1 h2
            · rw [if_neg e2] at h2 ⊢
              exact h2
          · rw [if_neg e1] at h1
            by_cases e2 : c b d = 0
            · have := (h.zero b d).1 e2
              subst this
              rw [if_neg e1]
              exact h1
            · rw [if_neg e2] at h2
              have h3 := h.trans a b d h1 h2
              rw [if_neg (by omega)]
              exact h3
theorem lexC_append (h : TotC c) (l : List α) (x : α) (r : List α) : lexC c l (l ++ x :: r) < 0 := by
  induction l with
  | nil => simp [lexC]
  | cons a t ih =>
    show lexC c (a :: t) (a :: (t ++ x :: r)) < 0
    simp only [lexC]
    rw [if_pos ((h.zero a a).2 rfl)]
    exact ih
/-- What stands between a list and one that begins with it begins with it, too. -/
theorem lexC_between (h : TotC c) : ∀ (l m r : List α), lexC c l m < 0 → lexC c m (l ++ r) < 0 → l <+: m
  | [], m, _, _, _ => List.nil_prefix
  | a :: t, [], _, h1, _ => by simp [lexC] at h1
  | a :: t, b :: u, r, h1, h2 => by
    have h2' : lexC c (b :: u) (a :: (t ++ r)) < 0 := h2
    simp only [lexC] at h1 h2'
    have h3 := h.anti a b
    by_cases e1 : c a b = 0
    · rw [if_pos e1] at h1
      rw [if_pos (by omega)] at h2'
      have := (h.zero a b).1 e1
      subst this
      obtain ⟨s, hs⟩ := lexC_between h t u r h1 h2'
      exact ⟨s, by rw [← hs]; rfl⟩
    · rw [if_neg e1] at h1
      rw [if_neg (by omega)] at h2'
      omega
end
def cB (a b : UInt8) : Int := if a < b then -1 else if a = b then 0 else 1
theorem cB_tot : TotC cB := by
  refine ⟨fun x y => ?_, fun x y => ?_, fun x y z => ?_⟩
  · unfold cB
    constructor
    · intro h
      split at h
      · omega
      · split at h
        · assumption
        · omega
    · rintro rfl
      rw [if_neg (by rw [UInt8.lt_iff_toNat_lt]; omega), if_pos rfl]
  · unfold cB
    have e : ∀ a b : UInt8, a = b ↔ a.toNat = b.toNat := fun a b => ⟨fun h => by rw [h], fun h => UInt8.toNat_inj.1 h⟩
    simp only [UInt8.lt_iff_toNat_lt, e]
    split <;> split <;> (try split) <;> (try split) <;> omega
  · unfold cB
    have e : ∀ a b : UInt8, a = b ↔ a.toNat = b.toNat := fun a b => ⟨fun h => by rw [h], fun h => UInt8.toNat_inj.1 h⟩
    simp only [UInt8.lt_iff_toNat_lt, e]
    intro h1 h2
    split at h1
    · split at h2
      · rw [if_pos (by omega)]; omega
      · split at h2 <;> omega
    · split at h1 <;> omega
abbrev ltS (p q : Bs) : Bool := Op.bytesLess p q
theorem ltS_iff : ∀ p q : Bs, ltS p q = true ↔ lexC cB p q < 0
  | [], [] => by simp [ltS, Op.bytesLess, lexC]
  | [], b :: u => by simp [ltS, Op.bytesLess, lexC]
  | a :: t, [] => by simp [ltS, Op.bytesLess, lexC]
  | a :: t, b :: u => by
    have ih := ltS_iff t u
    simp only [ltS] at ih
    simp only [ltS, Op.bytesLess, lexC, Bool.or_eq_true, Bool.and_eq_true, ih, decide_eq_true_eq, beq_iff_eq]
    by_cases h1 : a < b
    · have : cB a b = -1 := by unfold cB; rw [if_pos h1]
      simp [this, h1]
    · by_cases h2 : a = b
      · have : cB a b = 0 := by unfold cB; rw [if_neg h1, if_pos h2]
        rw [if_pos this]
        simp [h2, UInt8.lt_irrefl]
      · have : cB a b = 1 := by unfold cB; rw [if_neg h1, if_neg h2]
        simp [this, h1, h2]
theorem ltS_lex (p q : Bs) : ltS p q = decide (lexC cB p q < 0) := by
  rw [Bool.eq_iff_iff, ltS_iff, decide_eq_true_iff]
def cmpS (p q : Bs) : Int := if ltS p q = true then -1 else if p = q then 0 else 1
theorem cmpS_sign (p q : Bs) : (cmpS p q < 0 ↔ lexC cB p q < 0) ∧ (cmpS p q = 0 ↔ p = q) ∧ (cmpS p q = -1 ∨ cmpS p q = 0 ∨ cmpS p q = 1) := by
  have h := ltS_lex p q
  have hz := (lexC_tot cB_tot).zero p q
  unfold cmpS
  by_cases h1 : lexC cB p q < 0
  · have h2 : ltS p q = true := by rw [h]; simpa using h1
    rw [if_pos h2]
    have : p ≠ q := fun e => by have := hz.2 e; omega
    simp [h1, this]
  · have h2 : ¬ ltS p q = true := by rw [h]; simpa using h1
    rw [if_neg h2]
    by_cases h3 : p = q
    · rw [if_pos h3]; simp [h1, h3]; (try (have := hz.2 h3; subst h3; omega))
    · rw [if_neg h3]; simp [h1, h3]
theorem cmpS_tot : TotC cmpS := by
  have T := lexC_tot cB_tot
  refine ⟨fun x y => (cmpS_sign x y).2.1, fun x y => ?_, fun x y z h1 h2 => ?_⟩
  · have s1 := cmpS_sign x y
    have s2 := cmpS_sign y x
    have a := T.anti x y
    have z := T.zero x y
    have e : (x = y) ↔ (y = x) := ⟨Eq.symm, Eq.symm⟩
    rcases s1.2.2 with h | h | h <;> rcases s2.2.2 with k | k | k
    · have := s1.1.1 (by omega); have := s2.1.1 (by omega); omega
    · have := s2.2.1.1 k; have := s1.2.1.2 this.symm; omega
    · omega
    · have := s1.2.1.1 h; have := s2.2.1.2 this.symm; omega
    · omega
    · have := s1.2.1.1 h; have := s2.2.1.2 this.symm; omega
    · omega
    · have := s2.2.1.1 k; have := s1.2.1.2 this.symm; omega
    · have h1 : ¬ lexC cB x y < 0 := fun q => by have := s1.1.2 q; omega
      have h2 : ¬ lexC cB y x < 0 := fun q => by have := s2.1.2 q; omega
      have : lexC cB x y = 0 := by omega
      have := s1.2.1.2 (z.1 this)
      omega
  · exact (cmpS_sign x z).1.2 (T.trans x y z ((cmpS_sign x y).1.1 h1) ((cmpS_sign y z).1.1 h2))
/-- The comparison of lists of texts. -/
abbrev cmpL : List Bs → List Bs → Int := lexC cmpS
theorem cmpL_tot : TotC cmpL := lexC_tot cmpS_tot
theorem cmpL_val : ∀ x y : List Bs, cmpL x y = -1 ∨ cmpL x y = 0 ∨ cmpL x y = 1
  | [], [] => by simp [cmpL, lexC]
  | [], _ :: _ => by simp [cmpL, lexC]
  | _ :: _, [] => by simp [cmpL, lexC]
  | a :: t, b :: u => by
    simp only [cmpL, lexC]
    split
    · exact cmpL_val t u
    · exact (cmpS_sign a b).2.2
theorem cmpL_same (l : List Bs) (x y : List Bs) : cmpL (l ++ x) (l ++ y) = cmpL x y := by
  induction l with
  | nil => rfl
  | cons a t ih =>
    show lexC cmpS (a :: (t ++ x)) (a :: (t ++ y)) = _
    simp only [lexC]
    rw [if_pos ((cmpS_tot.zero a a).2 rfl)]
    exact ih
end Go.Proofs.YthnngndnpigjbaaGreat

namespace Go.Proofs.YthnngndnpigjbaaGreat
section
variable {α κ : Type} (key : α → κ) (c : κ → κ → Int)
/-- None stands ahead of a lesser one. -/
def SrtK (P : List α) : Prop := P.Pairwise fun x y => ¬ c (key y) (key x) < 0
/-- One more, behind all that are not greater. -/
def insK (x : α) : List α → List α
  | [] => [x]
  | y :: l => if c (key x) (key y) < 0 then x :: y :: l else y :: insK x l
def sortK (L : List α) : List α := L.foldl (fun S x => insK key c x S) []
variable {key c}
theorem insK_mem {x z : α} : ∀ {l : List α}, z ∈ insK key c x l ↔ z = x ∨ z ∈ l
  | [] => by simp [insK]
  | y :: l => by
    unfold insK
    split
    · simp
    · simp only [List.mem_cons, insK_mem (l := l)]; constructor <;> (rintro (h | h | h) <;> simp [h])
theorem SrtK.ins (T : TotC c) {S1 Tl : List α} {x : α} (hs : SrtK key c (S1 ++ Tl)) (h1 : ∀ t ∈ Tl, c (key x) (key t) < 0) (h2 : ∀ s, S1.getLast? = some s → ¬ c (key x) (key s) < 0) :
    SrtK key c (S1 ++ x :: Tl) := by
  have hs' := hs
  unfold SrtK at hs ⊢
  rw [List.pairwise_append] at hs
  rw [List.pairwise_append]
  refine ⟨hs.1, List.pairwise_cons.2 ⟨fun t ht hlt => ?_, hs.2.1⟩, fun s hsm y hy => ?_⟩
  · have := T.anti (key x) (key t)
    have := h1 t ht
    omega
  · rcases List.mem_cons.1 hy with rfl | hy
    · rcases List.eq_nil_or_concat S1 with rfl | ⟨S0, l, rfl⟩
      · cases hsm
      · have hl := h2 l (by simp)
        have hsm' : s ∈ S0 ∨ s = l := by simpa using hsm
        rcases hsm' with hm | hm
        · have h3 := (List.pairwise_append.1 (by simpa using hs.1)).2.2 s hm l (by simp)
          intro hlt
          have a1 := T.anti (key y) (key s)
          have a2 := T.anti (key l) (key s)
          have a3 := T.anti (key y) (key l)
          by_cases e : c (key s) (key l) = 0
          · have := (T.zero _ _).1 e
            rw [this] at hlt
            exact hl hlt
          · have h4 : c (key s) (key l) < 0 := by omega
            by_cases e2 : c (key l) (key y) = 0
            · have := (T.zero _ _).1 e2
              rw [← this] at hlt
              omega
            · have h5 : c (key l) (key y) < 0 := by omega
              have := T.trans _ _ _ h4 h5
              omega
        · rw [hm]; exact hl
    · exact hs.2.2 s hsm y hy
theorem insK_srt (T : TotC c) {x : α} : ∀ {l : List α}, SrtK key c l → SrtK key c (insK key c x l)
  | [], _ => by simp [insK, SrtK]
  | y :: l, h => by
    have h1 := List.pairwise_cons.1 h
    unfold insK
    have a := T.anti (key x) (key y)
    by_cases hlt : c (key x) (key y) < 0
    · rw [if_pos hlt]
      refine List.pairwise_cons.2 ⟨fun z hz => ?_, h⟩
      rcases List.mem_cons.1 hz with rfl | hz
      · omega
      · intro h2
        have h3 := h1.1 z hz
        exact h3 (T.trans _ _ _ h2 hlt)
    · rw [if_neg hlt]
      refine List.pairwise_cons.2 ⟨fun z hz => ?_, insK_srt T h1.2⟩
      rcases insK_mem.1 hz with rfl | hz
      · exact hlt
      · exact h1.1 z hz
end
section
variable {α κ : Type} [DecidableEq κ] (key : α → κ) {c : κ → κ → Int}
/-- Of each key there stand the same things in the same order. -/
def StS (P L : List α) : Prop := ∀ k : κ, P.filter (fun y => decide (key y = k)) = L.filter (fun y => decide (key y = k))
variable {key}
theorem StS.refl (L : List α) : StS key L L := fun _ => rfl
theorem StS.trans {P Q R : List α} (h : StS key P Q) (g : StS key Q R) : StS key P R := fun k => (h k).trans (g k)
theorem StS.symm {P Q : List α} (h : StS key P Q) : StS key Q P := fun k => (h k).symm
theorem StS.append {P Q P' Q' : List α} (h : StS key P Q) (g : StS key P' Q') : StS key (P ++ P') (Q ++ Q') := fun k => by
  rw [List.filter_append, List.filter_append, h k, g k]
theorem StS.mem {P Q : List α} (h : StS key P Q) {x : α} (hx : x ∈ P) : x ∈ Q := by
  have h1 : x ∈ P.filter (fun y => decide (key y = key x)) := List.mem_filter.2 ⟨hx, by simp⟩
  rw [h (key x)] at h1
  exact (List.mem_filter.1 h1).1
theorem StS.rot {X Y : List α} (h : ∀ x ∈ X, ∀ y ∈ Y, key y ≠ key x) : StS key (Y ++ X) (X ++ Y) := fun k => by
  rw [List.filter_append, List.filter_append]
  by_cases hx : X.filter (fun y => decide (key y = k)) = []
  · rw [hx]; simp
  · have hy : Y.filter (fun y => decide (key y = k)) = [] := by
      rw [List.filter_eq_nil_iff]
      intro y hy hk
      obtain ⟨x, hx⟩ := List.exists_mem_of_ne_nil _ hx
      obtain ⟨hx1, hx2⟩ := List.mem_filter.1 hx
      exact h x hx1 y hy ((of_decide_eq_true hk).trans (of_decide_eq_true hx2).symm)
    rw [hy]; simp
theorem StS.len {P Q : List α} (h : StS key P Q) : P.length = Q.length := by
  classical
  have : P.Perm Q := by
    rw [List.perm_iff_count]
    intro a
    have e : ∀ L : List α, L.count a = (L.filter (fun y => decide (key y = key a))).count a := fun L => by
      rw [List.count_filter]; simp
    rw [e P, e Q, h (key a)]
  exact this.length_eq
theorem srt_unique (T : TotC c) : ∀ (P Q : List α), SrtK key c P → SrtK key c Q → StS key P Q → P = Q := by
  intro P
  induction P with
  | nil => intro Q _ _ h; have := h.len; simp at this; exact (List.eq_nil_of_length_eq_zero this.symm).symm
  | cons p P ih =>
    intro Q hp hq h
    cases Q with
    | nil => have := h.len; simp at this
    | cons q Q =>
      have m1 : q ∈ p :: P := h.symm.mem (by simp)
      have m2 : p ∈ q :: Q := h.mem (by simp)
      have hp1 := (List.pairwise_cons.1 hp)
      have hq1 := (List.pairwise_cons.1 hq)
      have r : ∀ k : κ, c k k = 0 := fun k => (T.zero k k).2 rfl
      have k1 : ¬ c (key q) (key p) < 0 := by
        rcases List.mem_cons.1 m1 with rfl | m
        · rw [r]; omega
        · exact hp1.1 q m
      have k2 : ¬ c (key p) (key q) < 0 := by
        rcases List.mem_cons.1 m2 with rfl | m
        · rw [r]; omega
        · exact hq1.1 p m
      have a := T.anti (key p) (key q)
      have e : key p = key q := (T.zero _ _).1 (by omega)
      have h0 := h (key p)
      rw [List.filter_cons_of_pos (by simp), List.filter_cons_of_pos (by simp [e])] at h0
      injection h0 with h1 h2
      subst h1
      rw [ih Q hp1.2 hq1.2 fun k => ?_]
      by_cases hk : key p = k
      · rw [← hk]; exact h2
      · have := h k
        rw [List.filter_cons_of_neg (by simpa using hk), List.filter_cons_of_neg (by simpa using hk)] at this
        exact this
theorem insK_st (T : TotC c) {x : α} : ∀ {l : List α}, SrtK key c l → StS key (insK key c x l) (l ++ [x])
  | [], _ => StS.refl _
  | y :: l, h => by
    have h1 := List.pairwise_cons.1 h
    unfold insK
    by_cases hlt : c (key x) (key y) < 0
    · rw [if_pos hlt]
      refine StS.rot (X := y :: l) (Y := [x]) fun z hz w hw e => ?_
      rw [List.mem_singleton.1 hw] at e
      rcases List.mem_cons.1 hz with rfl | hz
      · rw [(T.zero _ _).2 e] at hlt; omega
      · have h3 := h1.1 z hz
        rw [← e] at h3
        exact h3 hlt
    · rw [if_neg hlt]
      exact StS.append (StS.refl [y]) (insK_st T h1.2)
theorem sortK_spec (T : TotC c) (L : List α) : SrtK key c (sortK key c L) ∧ StS key (sortK key c L) L := by
  unfold sortK
  suffices h : ∀ (L S M : List α), SrtK key c S → StS key S M → SrtK key c (L.foldl (fun S x => insK key c x S) S) ∧ StS key (L.foldl (fun S x => insK key c x S) S) (M ++ L) by
    have := h L [] [] List.Pairwise.nil (StS.refl _)
    simpa using this
  intro L
  induction L with
  | nil => intro S M h g; simpa using ⟨h, g⟩
  | cons x L ih =>
    intro S M h g
    have := ih (insK key c x S) (M ++ [x]) (insK_srt T h) ((insK_st T h).trans (g.append (StS.refl [x])))
    simpa using this
theorem sortK_of (T : TotC c) {P L : List α} (h : SrtK key c P) (g : StS key P L) : P = sortK key c L :=
  srt_unique T _ _ h (sortK_spec T L).1 (g.trans (sortK_spec T L).2.symm)
end
end Go.Proofs.YthnngndnpigjbaaGreat

namespace Go.Proofs.YthnngndnpigjbaaGreat
section
variable {κ : Type} {c : κ → κ → Int}
theorem TotC.le_le (T : TotC c) {x y z : κ} (h1 : ¬ c y x < 0) (h2 : ¬ c z y < 0) : ¬ c z x < 0 := by
  have a1 := T.anti x y
  have a2 := T.anti y z
  have a3 := T.anti x z
  by_cases e1 : c x y = 0
  · have := (T.zero x y).1 e1; subst this; exact h2
  · by_cases e2 : c y z = 0
    · have := (T.zero y z).1 e2; subst this; exact h1
    · have := T.trans x y z (by omega) (by omega); omega
theorem TotC.lt_le (T : TotC c) {x y z : κ} (h1 : c x y < 0) (h2 : ¬ c z y < 0) : c x z < 0 := by
  have a2 := T.anti y z
  by_cases e2 : c y z = 0
  · have := (T.zero y z).1 e2; subst this; exact h1
  · exact T.trans x y z h1 (by omega)
theorem TotC.le_lt (T : TotC c) {x y z : κ} (h1 : ¬ c y x < 0) (h2 : c y z < 0) : c x z < 0 := by
  have a2 := T.anti x y
  by_cases e2 : c x y = 0
  · have := (T.zero x y).1 e2; subst this; exact h2
  · exact T.trans x y z (by omega) h2
theorem TotC.lt_not (T : TotC c) {x y : κ} (h1 : c x y < 0) : ¬ c y x < 0 := by
  have a2 := T.anti x y
  omega
theorem TotC.refl_not (T : TotC c) (x : κ) : ¬ c x x < 0 := by
  have := (T.zero x x).2 rfl
  omega
end
section
variable {α κ : Type} {key : α → κ} {c : κ → κ → Int}
theorem srt_app {A B : List α} : SrtK key c (A ++ B) ↔ SrtK key c A ∧ SrtK key c B ∧ ∀ x ∈ A, ∀ y ∈ B, ¬ c (key y) (key x) < 0 := List.pairwise_append
theorem srt_idx (T : TotC c) {l : List α} (h : SrtK key c l) {i j : Nat} {x y : α} (hx : l[i]? = some x) (hy : l[j]? = some y) (hij : i ≤ j) : ¬ c (key y) (key x) < 0 := by
  obtain ⟨h1, rfl⟩ := List.getElem?_eq_some_iff.1 hx
  obtain ⟨h2, rfl⟩ := List.getElem?_eq_some_iff.1 hy
  rcases Nat.lt_or_ge i j with hlt | hge
  · exact List.pairwise_iff_getElem.1 h i j h1 h2 hlt
  · obtain rfl : i = j := by omega
    exact T.refl_not _
theorem mem_take_idx {l : List α} {n : Nat} {x : α} (h : x ∈ l.take n) : ∃ i, i < n ∧ l[i]? = some x := by
  obtain ⟨i, hi⟩ := List.getElem?_of_mem h
  have h1 := (List.getElem?_eq_some_iff.1 hi).1
  rw [List.length_take] at h1
  rw [List.getElem?_take_of_lt (by omega)] at hi
  exact ⟨i, by omega, hi⟩
theorem mem_drop_idx {l : List α} {n : Nat} {x : α} (h : x ∈ l.drop n) : ∃ i, n ≤ i ∧ l[i]? = some x := by
  obtain ⟨i, hi⟩ := List.getElem?_of_mem h
  rw [List.getElem?_drop] at hi
  exact ⟨n + i, by omega, hi⟩
/-- Where two rows in order are cut alike: what lies ahead stands ahead. -/
theorem symm_ok (T : TotC c) {L R : List α} (hL : SrtK key c L) (hR : SrtK key c R) {i j : Nat}
    (h1 : i = 0 ∨ R.length ≤ j ∨ ∃ x y, L[i - 1]? = some x ∧ R[j]? = some y ∧ ¬ c (key y) (key x) < 0)
    (h2 : j = 0 ∨ L.length ≤ i ∨ ∃ x y, R[j - 1]? = some x ∧ L[i]? = some y ∧ c (key x) (key y) < 0) :
    (∀ x ∈ L.take i ++ R.take j, ∀ y ∈ L.drop i ++ R.drop j, ¬ c (key y) (key x) < 0) ∧ (∀ x ∈ R.take j, ∀ y ∈ L.drop i, c (key x) (key y) < 0) := by
  have hs : ∀ x ∈ R.take j, ∀ y ∈ L.drop i, c (key x) (key y) < 0 := by
    intro x hx y hy
    obtain ⟨p, hp, hpx⟩ := mem_take_idx hx
    obtain ⟨q, hq, hqy⟩ := mem_drop_idx hy
    rcases h2 with h | h | ⟨u, v, hu, hv, huv⟩
    · omega
    · have := (List.getElem?_eq_some_iff.1 hqy).1; omega
    · exact T.lt_le (T.le_lt (srt_idx T hR hpx hu (by omega)) huv) (srt_idx T hL hv hqy (by omega))
  refine ⟨?_, hs⟩
  intro x hx y hy
  rcases List.mem_append.1 hx with hx | hx <;> rcases List.mem_append.1 hy with hy | hy
  · obtain ⟨p, hp, hpx⟩ := mem_take_idx hx
    obtain ⟨q, hq, hqy⟩ := mem_drop_idx hy
    exact srt_idx T hL hpx hqy (by omega)
  · obtain ⟨p, hp, hpx⟩ := mem_take_idx hx
    obtain ⟨q, hq, hqy⟩ := mem_drop_idx hy
    rcases h1 with h | h | ⟨u, v, hu, hv, huv⟩
    · omega
    · have := (List.getElem?_eq_some_iff.1 hqy).1; omega
    · exact T.le_le (T.le_le (srt_idx T hL hpx hu (by omega)) huv) (srt_idx T hR hv hqy (by omega))
  · exact T.lt_not (hs x hx y hy)
  · obtain ⟨p, hp, hpx⟩ := mem_take_idx hx
    obtain ⟨q, hq, hqy⟩ := mem_drop_idx hy
    exact srt_idx T hR hpx hqy (by omega)
end
section
variable {α κ : Type} [DecidableEq κ] {key : α → κ} {c : κ → κ → Int}
/-- Both halves put in order: the whole is. -/
theorem symm_join (T : TotC c) {L R M1 M2 : List α} {i j : Nat} (hx : ∀ x ∈ L.take i ++ R.take j, ∀ y ∈ L.drop i ++ R.drop j, ¬ c (key y) (key x) < 0) (hs : ∀ x ∈ R.take j, ∀ y ∈ L.drop i, c (key x) (key y) < 0)
    (g1 : SrtK key c M1) (g2 : SrtK key c M2) (e1 : StS key M1 (L.take i ++ R.take j)) (e2 : StS key M2 (L.drop i ++ R.drop j)) :
    SrtK key c (M1 ++ M2) ∧ StS key (M1 ++ M2) (L ++ R) := by
  refine ⟨srt_app.2 ⟨g1, g2, fun x hxm y hym => hx x (e1.mem hxm) y (e2.mem hym)⟩, ?_⟩
  have h1 := e1.append e2
  have h2 : StS key (R.take j ++ L.drop i) (L.drop i ++ R.take j) := StS.rot (X := L.drop i) (Y := R.take j) fun x hx' y hy' e => by
    have := hs y hy' x hx'
    rw [e] at this
    exact T.refl_not _ this
  have h3 := (StS.refl (key := key) (L.take i)).append (h2.append (StS.refl (R.drop j)))
  have e : L.take i ++ ((L.drop i ++ R.take j) ++ R.drop j) = L ++ R := by
    rw [List.append_assoc, List.take_append_drop, ← List.append_assoc, List.take_append_drop]
  rw [e] at h3
  have e' : (L.take i ++ R.take j) ++ (L.drop i ++ R.drop j) = L.take i ++ ((R.take j ++ L.drop i) ++ R.drop j) := by simp
  rw [e'] at h1
  exact h1.trans h3
/-- One in front, put where it belongs. -/
theorem ins_front (T : TotC c) {R : List α} (hR : SrtK key c R) {x : α} {j : Nat}
    (h2 : j = 0 ∨ ∃ y, R[j - 1]? = some y ∧ c (key y) (key x) < 0) (h1 : R.length ≤ j ∨ ∃ y, R[j]? = some y ∧ ¬ c (key y) (key x) < 0) :
    SrtK key c (R.take j ++ x :: R.drop j) ∧ StS key (R.take j ++ x :: R.drop j) (x :: R) := by
  have hs : ∀ y ∈ R.take j, c (key y) (key x) < 0 := fun y hy => by
    obtain ⟨p, hp, hpy⟩ := mem_take_idx hy
    rcases h2 with h | ⟨z, hz, hzx⟩
    · omega
    · exact T.le_lt (srt_idx T hR hpy hz (by omega)) hzx
  have hg : ∀ y ∈ R.drop j, ¬ c (key y) (key x) < 0 := fun y hy => by
    obtain ⟨q, hq, hqy⟩ := mem_drop_idx hy
    rcases h1 with h | ⟨z, hz, hzx⟩
    · have := (List.getElem?_eq_some_iff.1 hqy).1; omega
    · exact T.le_le hzx (srt_idx T hR hz hqy (by omega))
  have hR' : SrtK key c (R.take j ++ R.drop j) := by rw [List.take_append_drop]; exact hR
  obtain ⟨r1, r2, r3⟩ := srt_app.1 hR'
  refine ⟨srt_app.2 ⟨r1, List.pairwise_cons.2 ⟨hg, r2⟩, fun y hy z hz => ?_⟩, ?_⟩
  · rcases List.mem_cons.1 hz with rfl | hz
    · exact T.lt_not (hs y hy)
    · exact r3 y hy z hz
  · have h2 : StS key (R.take j ++ [x]) ([x] ++ R.take j) := StS.rot (X := [x]) (Y := R.take j) fun u hu y hy e => by
      rw [List.mem_singleton.1 hu] at e
      have := hs y hy
      rw [e] at this
      exact T.refl_not _ this
    have h3 := h2.append (StS.refl (key := key) (R.drop j))
    have e1 : R.take j ++ [x] ++ R.drop j = R.take j ++ x :: R.drop j := by simp
    have e2 : [x] ++ R.take j ++ R.drop j = x :: R := by simp
    rwa [e1, e2] at h3
/-- One behind, put where it belongs. -/
theorem ins_back (T : TotC c) {L : List α} (hL : SrtK key c L) {y : α} {i : Nat}
    (h1 : i = 0 ∨ ∃ x, L[i - 1]? = some x ∧ ¬ c (key y) (key x) < 0) (h2 : L.length ≤ i ∨ ∃ x, L[i]? = some x ∧ c (key y) (key x) < 0) :
    SrtK key c (L.take i ++ y :: L.drop i) ∧ StS key (L.take i ++ y :: L.drop i) (L ++ [y]) := by
  have hg : ∀ x ∈ L.take i, ¬ c (key y) (key x) < 0 := fun x hx => by
    obtain ⟨p, hp, hpx⟩ := mem_take_idx hx
    rcases h1 with h | ⟨z, hz, hzx⟩
    · omega
    · exact T.le_le (srt_idx T hL hpx hz (by omega)) hzx
  have hs : ∀ x ∈ L.drop i, c (key y) (key x) < 0 := fun x hx => by
    obtain ⟨q, hq, hqx⟩ := mem_drop_idx hx
    rcases h2 with h | ⟨z, hz, hzx⟩
    · have := (List.getElem?_eq_some_iff.1 hqx).1; omega
    · exact T.lt_le hzx (srt_idx T hL hz hqx (by omega))
  have hL' : SrtK key c (L.take i ++ L.drop i) := by rw [List.take_append_drop]; exact hL
  obtain ⟨r1, r2, r3⟩ := srt_app.1 hL'
  refine ⟨srt_app.2 ⟨r1, List.pairwise_cons.2 ⟨fun x hx => T.lt_not (hs x hx), r2⟩, fun x hx z hz => ?_⟩, ?_⟩
  · rcases List.mem_cons.1 hz with rfl | hz
    · exact hg x hx
    · exact r3 x hx z hz
  · have h2 : StS key ([y] ++ L.drop i) (L.drop i ++ [y]) := StS.rot (X := L.drop i) (Y := [y]) fun x hx u hu e => by
      rw [List.mem_singleton.1 hu] at e
      have := hs x hx
      rw [e] at this
      exact T.refl_not _ this
    have h3 := (StS.refl (key := key) (L.take i)).append h2
    have e2 : L.take i ++ (L.drop i ++ [y]) = L ++ [y] := by rw [← List.append_assoc, List.take_append_drop]
    rw [e2] at h3
    exact h3
end
end Go.Proofs.YthnngndnpigjbaaGreat
