/- Stable orders of lists by a key. Plain: no program in sight. Conditions: none. -/
import Derived.Test.YtfipacfompihkaaOrd
namespace Go.Proofs.Ytfipacfompihkaa
section
variable {α κ : Type} (key : α → κ) (c : κ → κ → Int)
/-- None stands ahead of a lesser one. -/
def SrtK (P : List α) : Prop := P.Pairwise fun x y => ¬ c (key y) (key x) < 0
/-- One more, behind all that are not greater. -/
def insK (x : α) : List α → List α
  | [] => [x]
  | y :: l => if c (key x) (key y) < 0 then x :: y :: l else y :: insK x l
def sortK (L : List α) : List α := L.foldl (fun S x => insK key c x S) []
variable {key c}
theorem insK_mem {x z : α} : ∀ {l : List α}, z ∈ insK key c x l ↔ z = x ∨ z ∈ l
  | [] => by simp [insK]
  | y :: l => by
    unfold insK
    split
    · simp
    · simp only [List.mem_cons, insK_mem (l := l)]; constructor <;> (rintro (h | h | h) <;> simp [h])
theorem SrtK.ins (T : TotC c) {S1 Tl : List α} {x : α} (hs : SrtK key c (S1 ++ Tl)) (h1 : ∀ t ∈ Tl, c (key x) (key t) < 0) (h2 : ∀ s, S1.getLast? = some s → ¬ c (key x) (key s) < 0) :
    SrtK key c (S1 ++ x :: Tl) := by
  have hs' := hs
  unfold SrtK at hs ⊢
  rw [List.pairwise_append] at hs
  rw [List.pairwise_append]
  refine ⟨hs.1, List.pairwise_cons.2 ⟨fun t ht hlt => ?_, hs.2.1⟩, fun s hsm y hy => ?_⟩
  · have := T.anti (key x) (key t)
    have := h1 t ht
    omega
  · rcases List.mem_cons.1 hy with rfl | hy
    · rcases List.eq_nil_or_concat S1 with rfl | ⟨S0, l, rfl⟩
      · cases hsm
      · have hl := h2 l (by simp)
        have hsm' : s ∈ S0 ∨ s = l := by simpa using hsm
        rcases hsm' with hm | hm
        · have h3 := (List.pairwise_append.1 (by simpa using hs.1)).2.2 s hm l (by simp)
          intro hlt
          have a1 := T.anti (key y) (key s)
          have a2 := T.anti (key l) (key s)
          have a3 := T.anti (key y) (key l)
          by_cases e : c (key s) (key l) = 0
          · have := (T.zero _ _).1 e
            rw [this] at hlt
            exact hl hlt
          · have h4 : c (key s) (key l) < 0 := by omega
            by_cases e2 : c (key l) (key y) = 0
            · have := (T.zero _ _).1 e2
              rw [← this] at hlt
              omega
            · have h5 : c (key l) (key y) < 0 := by omega
              have := T.trans _ _ _ h4 h5
              omega
        · rw [hm]; exact hl
    · exact hs.2.2 s hsm y hy
theorem insK_srt (T : TotC c) {x : α} : ∀ {l : List α}, SrtK key c l → SrtK key c (insK key c x l)
  | [], _ => by simp [insK, SrtK]
  | y :: l, h => by
    have h1 := List.pairwise_cons.1 h
    unfold insK
    have a := T.anti (key x) (key y)
    by_cases hlt : c (key x) (key y) < 0
    · rw [if_pos hlt]
      refine List.pairwise_cons.2 ⟨fun z hz => ?_, h⟩
      rcases List.mem_cons.1 hz with rfl | hz
      · omega
      · intro h2
        have h3 := h1.1 z hz
        exact h3 (T.trans _ _ _ h2 hlt)
    · rw [if_neg hlt]
      refine List.pairwise_cons.2 ⟨fun z hz => ?_, insK_srt T h1.2⟩
      rcases insK_mem.1 hz with rfl | hz
      · exact hlt
      · exact h1.1 z hz
end
section
variable {α κ : Type} [DecidableEq κ] (key : α → κ) {c : κ → κ → Int}
/-- Of each key there stand the same things in the same order. -/
def StS (P L : List α) : Prop := ∀ k : κ, P.filter (fun y => decide (key y = k)) = L.filter (fun y => decide (key y = k))
variable {key}
theorem StS.refl (L : List α) : StS key L L := fun _ => rfl
theorem StS.trans {P Q R : List α} (h : StS key P Q) (g : StS key Q R) : StS key P R := fun k => (h k).trans (g k)
theorem StS.symm {P Q : List α} (h : StS key P Q) : StS key Q P := fun k => (h k).symm
theorem StS.append {P Q P' Q' : List α} (h : StS key P Q) (g : StS key P' Q') : StS key (P ++ P') (Q ++ Q') := fun k => by
  rw [List.filter_append, List.filter_append, h k, g k]
theorem StS.mem {P Q : List α} (h : StS key P Q) {x : α} (hx : x ∈ P) : x ∈ Q := by
  have h1 : x ∈ P.filter (fun y => decide (key y = key x)) := List.mem_filter.2 ⟨hx, by simp⟩
  rw [h (key x)] at h1
  exact (List.mem_filter.1 h1).1
theorem StS.rot {X Y : List α} (h : ∀ x ∈ X, ∀ y ∈ Y, key y ≠ key x) : StS key (Y ++ X) (X ++ Y) := fun k => by
  rw [List.filter_append, List.filter_append]
  by_cases hx : X.filter (fun y => decide (key y = k)) = []
  · rw [hx]; simp
  · have hy : Y.filter (fun y => decide (key y = k)) = [] := by
      rw [List.filter_eq_nil_iff]
      intro y hy hk
      obtain ⟨x, hx⟩ := List.exists_mem_of_ne_nil _ hx
      obtain ⟨hx1, hx2⟩ := List.mem_filter.1 hx
      exact h x hx1 y hy ((of_decide_eq_true hk).trans (of_decide_eq_true hx2).symm)
    rw [hy]; simp
theorem StS.len {P Q : List α} (h : StS key P Q) : P.length = Q.length := by
  classical
  have : P.Perm Q := by
    rw [List.perm_iff_count]
    intro a
    have e : ∀ L : List α, L.count a = (L.filter (fun y => decide (key y = key a))).count a := fun L => by
      rw [List.count_filter]; simp
    rw [e P, e Q, h (key a)]
  exact this.length_eq
theorem srt_unique (T : TotC c) : ∀ (P Q : List α), SrtK key c P → SrtK key c Q → StS key P Q → P = Q := by
  intro P
  induction P with
  | nil => intro Q _ _ h; have := h.len; simp at this; exact (List.eq_nil_of_length_eq_zero this.symm).symm
  | cons p P ih =>
    intro Q hp hq h
    cases Q with
    | nil => have := h.len; simp at this
    | cons q Q =>
      have m1 : q ∈ p :: P := h.symm.mem (by simp)
      have m2 : p ∈ q :: Q := h.mem (by simp)
      have hp1 := (List.pairwise_cons.1 hp)
      have hq1 := (List.pairwise_cons.1 hq)
      have r : ∀ k : κ, c k k = 0 := fun k => (T.zero k k).2 rfl
      have k1 : ¬ c (key q) (key p) < 0 := by
        rcases List.mem_cons.1 m1 with rfl | m
        · rw [r]; omega
        · exact hp1.1 q m
      have k2 : ¬ c (key p) (key q) < 0 := by
        rcases List.mem_cons.1 m2 with rfl | m
        · rw [r]; omega
        · exact hq1.1 p m
      have a := T.anti (key p) (key q)
      have e : key p = key q := (T.zero _ _).1 (by omega)
      have h0 := h (key p)
      rw [List.filter_cons_of_pos (by simp), List.filter_cons_of_pos (by simp [e])] at h0
      injection h0 with h1 h2
      subst h1
      rw [ih Q hp1.2 hq1.2 fun k => ?_]
      by_cases hk : key p = k
      · rw [← hk]; exact h2
      · have := h k
        rw [List.filter_cons_of_neg (by simpa using hk), List.filter_cons_of_neg (by simpa using hk)] at this
        exact this
theorem insK_st (T : TotC c) {x : α} : ∀ {l : List α}, SrtK key c l → StS key (insK key c x l) (l ++ [x])
  | [], _ => StS.refl _
  | y :: l, h => by
    have h1 := List.pairwise_cons.1 h
    unfold insK
    by_cases hlt : c (key x) (key y) < 0
    · rw [if_pos hlt]
      refine StS.rot (X := y :: l) (Y := [x]) fun z hz w hw e => ?_
      rw [List.mem_singleton.1 hw] at e
      rcases List.mem_cons.1 hz with rfl | hz
      · rw [(T.zero _ _).2 e] at hlt; omega
      · have h3 := h1.1 z hz
        rw [← e] at h3
        exact h3 hlt
    · rw [if_neg hlt]
      exact StS.append (StS.refl [y]) (insK_st T h1.2)
theorem sortK_spec (T : TotC c) (L : List α) : SrtK key c (sortK key c L) ∧ StS key (sortK key c L) L := by
  unfold sortK
  suffices h : ∀ (L S M : List α), SrtK key c S → StS key S M → SrtK key c (L.foldl (fun S x => insK key c x S) S) ∧ StS key (L.foldl (fun S x => insK key c x S) S) (M ++ L) by
    have := h L [] [] List.Pairwise.nil (StS.refl _)
    simpa using this
  intro L
  induction L with
  | nil => intro S M h g; simpa using ⟨h, g⟩
  | cons x L ih =>
    intro S M h g
    have := ih (insK key c x S) (M ++ [x]) (insK_srt T h) ((insK_st T h).trans (g.append (StS.refl [x])))
    simpa using this
theorem sortK_of (T : TotC c) {P L : List α} (h : SrtK key c P) (g : StS key P L) : P = sortK key c L :=
  srt_unique T _ _ h (sortK_spec T L).1 (g.trans (sortK_spec T L).2.symm)
end
end Go.Proofs.Ytfipacfompihkaa
