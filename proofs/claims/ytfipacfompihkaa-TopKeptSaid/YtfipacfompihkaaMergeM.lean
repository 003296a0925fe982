/- Plain laws of a stable merge. Plain: no program in sight. Conditions: none. -/
import Derived.Test.YtfipacfompihkaaStab
namespace Go.Proofs.Ytfipacfompihkaa
section
variable {κ : Type} {c : κ → κ → Int}
theorem TotC.le_le (T : TotC c) {x y z : κ} (h1 : ¬ c y x < 0) (h2 : ¬ c z y < 0) : ¬ c z x < 0 := by
  have a1 := T.anti x y
  have a2 := T.anti y z
  have a3 := T.anti x z
  by_cases e1 : c x y = 0
  · have := (T.zero x y).1 e1; subst this; exact h2
  · by_cases e2 : c y z = 0
    · have := (T.zero y z).1 e2; subst this; exact h1
    · have := T.trans x y z (by omega) (by omega); omega
theorem TotC.lt_le (T : TotC c) {x y z : κ} (h1 : c x y < 0) (h2 : ¬ c z y < 0) : c x z < 0 := by
  have a2 := T.anti y z
  by_cases e2 : c y z = 0
  · have := (T.zero y z).1 e2; subst this; exact h1
  · exact T.trans x y z h1 (by omega)
theorem TotC.le_lt (T : TotC c) {x y z : κ} (h1 : ¬ c y x < 0) (h2 : c y z < 0) : c x z < 0 := by
  have a2 := T.anti x y
  by_cases e2 : c x y = 0
  · have := (T.zero x y).1 e2; subst this; exact h2
  · exact T.trans x y z (by omega) h2
theorem TotC.lt_not (T : TotC c) {x y : κ} (h1 : c x y < 0) : ¬ c y x < 0 := by
  have a2 := T.anti x y
  omega
theorem TotC.refl_not (T : TotC c) (x : κ) : ¬ c x x < 0 := by
  have := (T.zero x x).2 rfl
  omega
end
section
variable {α κ : Type} {key : α → κ} {c : κ → κ → Int}
theorem srt_app {A B : List α} : SrtK key c (A ++ B) ↔ SrtK key c A ∧ SrtK key c B ∧ ∀ x ∈ A, ∀ y ∈ B, ¬ c (key y) (key x) < 0 := List.pairwise_append
theorem srt_idx (T : TotC c) {l : List α} (h : SrtK key c l) {i j : Nat} {x y : α} (hx : l[i]? = some x) (hy : l[j]? = some y) (hij : i ≤ j) : ¬ c (key y) (key x) < 0 := by
  obtain ⟨h1, rfl⟩ := List.getElem?_eq_some_iff.1 hx
  obtain ⟨h2, rfl⟩ := List.getElem?_eq_some_iff.1 hy
  rcases Nat.lt_or_ge i j with hlt | hge
  · exact List.pairwise_iff_getElem.1 h i j h1 h2 hlt
  · obtain rfl : i = j := by omega
    exact T.refl_not _
theorem mem_take_idx {l : List α} {n : Nat} {x : α} (h : x ∈ l.take n) : ∃ i, i < n ∧ l[i]? = some x := by
  obtain ⟨i, hi⟩ := List.getElem?_of_mem h
  have h1 := (List.getElem?_eq_some_iff.1 hi).1
  rw [List.length_take] at h1
  rw [List.getElem?_take_of_lt (by omega)] at hi
  exact ⟨i, by omega, hi⟩
theorem mem_drop_idx {l : List α} {n : Nat} {x : α} (h : x ∈ l.drop n) : ∃ i, n ≤ i ∧ l[i]? = some x := by
  obtain ⟨i, hi⟩ := List.getElem?_of_mem h
  rw [List.getElem?_drop] at hi
  exact ⟨n + i, by omega, hi⟩
/-- Where two rows in order are cut alike: what lies ahead stands ahead. -/
theorem symm_ok (T : TotC c) {L R : List α} (hL : SrtK key c L) (hR : SrtK key c R) {i j : Nat}
    (h1 : i = 0 ∨ R.length ≤ j ∨ ∃ x y, L[i - 1]? = some x ∧ R[j]? = some y ∧ ¬ c (key y) (key x) < 0)
    (h2 : j = 0 ∨ L.length ≤ i ∨ ∃ x y, R[j - 1]? = some x ∧ L[i]? = some y ∧ c (key x) (key y) < 0) :
    (∀ x ∈ L.take i ++ R.take j, ∀ y ∈ L.drop i ++ R.drop j, ¬ c (key y) (key x) < 0) ∧ (∀ x ∈ R.take j, ∀ y ∈ L.drop i, c (key x) (key y) < 0) := by
  have hs : ∀ x ∈ R.take j, ∀ y ∈ L.drop i, c (key x) (key y) < 0 := by
    intro x hx y hy
    obtain ⟨p, hp, hpx⟩ := mem_take_idx hx
    obtain ⟨q, hq, hqy⟩ := mem_drop_idx hy
    rcases h2 with h | h | ⟨u, v, hu, hv, huv⟩
    · omega
    · have := (List.getElem?_eq_some_iff.1 hqy).1; omega
    · exact T.lt_le (T.le_lt (srt_idx T hR hpx hu (by omega)) huv) (srt_idx T hL hv hqy (by omega))
  refine ⟨?_, hs⟩
  intro x hx y hy
  rcases List.mem_append.1 hx with hx | hx <;> rcases List.mem_append.1 hy with hy | hy
  · obtain ⟨p, hp, hpx⟩ := mem_take_idx hx
    obtain ⟨q, hq, hqy⟩ := mem_drop_idx hy
    exact srt_idx T hL hpx hqy (by omega)
  · obtain ⟨p, hp, hpx⟩ := mem_take_idx hx
    obtain ⟨q, hq, hqy⟩ := mem_drop_idx hy
    rcases h1 with h | h | ⟨u, v, hu, hv, huv⟩
    · omega
    · have := (List.getElem?_eq_some_iff.1 hqy).1; omega
    · exact T.le_le (T.le_le (srt_idx T hL hpx hu (by omega)) huv) (srt_idx T hR hv hqy (by omega))
  · exact T.lt_not (hs x hx y hy)
  · obtain ⟨p, hp, hpx⟩ := mem_take_idx hx
    obtain ⟨q, hq, hqy⟩ := mem_drop_idx hy
    exact srt_idx T hR hpx hqy (by omega)
end
section
variable {α κ : Type} [DecidableEq κ] {key : α → κ} {c : κ → κ → Int}
/-- Both halves put in order: the whole is. -/
theorem symm_join (T : TotC c) {L R M1 M2 : List α} {i j : Nat} (hx : ∀ x ∈ L.take i ++ R.take j, ∀ y ∈ L.drop i ++ R.drop j, ¬ c (key y) (key x) < 0) (hs : ∀ x ∈ R.take j, ∀ y ∈ L.drop i, c (key x) (key y) < 0)
    (g1 : SrtK key c M1) (g2 : SrtK key c M2) (e1 : StS key M1 (L.take i ++ R.take j)) (e2 : StS key M2 (L.drop i ++ R.drop j)) :
    SrtK key c (M1 ++ M2) ∧ StS key (M1 ++ M2) (L ++ R) := by
  refine ⟨srt_app.2 ⟨g1, g2, fun x hxm y hym => hx x (e1.mem hxm) y (e2.mem hym)⟩, ?_⟩
  have h1 := e1.append e2
  have h2 : StS key (R.take j ++ L.drop i) (L.drop i ++ R.take j) := StS.rot (X := L.drop i) (Y := R.take j) fun x hx' y hy' e => by
    have := hs y hy' x hx'
    rw [e] at this
    exact T.refl_not _ this
  have h3 := (StS.refl (key := key) (L.take i)).append (h2.append (StS.refl (R.drop j)))
  have e : L.take i ++ ((L.drop i ++ R.take j) ++ R.drop j) = L ++ R := by
    rw [List.append_assoc, List.take_append_drop, ← List.append_assoc, List.take_append_drop]
  rw [e] at h3
  have e' : (L.take i ++ R.take j) ++ (L.drop i ++ R.drop j) = L.take i ++ ((R.take j ++ L.drop i) ++ R.drop j) := by simp
  rw [e'] at h1
  exact h1.trans h3
/-- One in front, put where it belongs. -/
theorem ins_front (T : TotC c) {R : List α} (hR : SrtK key c R) {x : α} {j : Nat}
    (h2 : j = 0 ∨ ∃ y, R[j - 1]? = some y ∧ c (key y) (key x) < 0) (h1 : R.length ≤ j ∨ ∃ y, R[j]? = some y ∧ ¬ c (key y) (key x) < 0) :
    SrtK key c (R.take j ++ x :: R.drop j) ∧ StS key (R.take j ++ x :: R.drop j) (x :: R) := by
  have hs : ∀ y ∈ R.take j, c (key y) (key x) < 0 := fun y hy => by
    obtain ⟨p, hp, hpy⟩ := mem_take_idx hy
    rcases h2 with h | ⟨z, hz, hzx⟩
    · omega
    · exact T.le_lt (srt_idx T hR hpy hz (by omega)) hzx
  have hg : ∀ y ∈ R.drop j, ¬ c (key y) (key x) < 0 := fun y hy => by
    obtain ⟨q, hq, hqy⟩ := mem_drop_idx hy
    rcases h1 with h | ⟨z, hz, hzx⟩
    · have := (List.getElem?_eq_some_iff.1 hqy).1; omega
    · exact T.le_le hzx (srt_idx T hR hz hqy (by omega))
  have hR' : SrtK key c (R.take j ++ R.drop j) := by rw [List.take_append_drop]; exact hR
  obtain ⟨r1, r2, r3⟩ := srt_app.1 hR'
  refine ⟨srt_app.2 ⟨r1, List.pairwise_cons.2 ⟨hg, r2⟩, fun y hy z hz => ?_⟩, ?_⟩
  · rcases List.mem_cons.1 hz with rfl | hz
    · exact T.lt_not (hs y hy)
    · exact r3 y hy z hz
  · have h2 : StS key (R.take j ++ [x]) ([x] ++ R.take j) := StS.rot (X := [x]) (Y := R.take j) fun u hu y hy e => by
      rw [List.mem_singleton.1 hu] at e
      have := hs y hy
      rw [e] at this
      exact T.refl_not _ this
    have h3 := h2.append (StS.refl (key := key) (R.drop j))
    have e1 : R.take j ++ [x] ++ R.drop j = R.take j ++ x :: R.drop j := by simp
    have e2 : [x] ++ R.take j ++ R.drop j = x :: R := by simp
    rwa [e1, e2] at h3
/-- One behind, put where it belongs. -/
theorem ins_back (T : TotC c) {L : List α} (hL : SrtK key c L) {y : α} {i : Nat}
    (h1 : i = 0 ∨ ∃ x, L[i - 1]? = some x ∧ ¬ c (key y) (key x) < 0) (h2 : L.length ≤ i ∨ ∃ x, L[i]? = some x ∧ c (key y) (key x) < 0) :
    SrtK key c (L.take i ++ y :: L.drop i) ∧ StS key (L.take i ++ y :: L.drop i) (L ++ [y]) := by
  have hg : ∀ x ∈ L.take i, ¬ c (key y) (key x) < 0 := fun x hx => by
    obtain ⟨p, hp, hpx⟩ := mem_take_idx hx
    rcases h1 with h | ⟨z, hz, hzx⟩
    · omega
    · exact T.le_le (srt_idx T hL hpx hz (by omega)) hzx
  have hs : ∀ x ∈ L.drop i, c (key y) (key x) < 0 := fun x hx => by
    obtain ⟨q, hq, hqx⟩ := mem_drop_idx hx
    rcases h2 with h | ⟨z, hz, hzx⟩
    · have := (List.getElem?_eq_some_iff.1 hqx).1; omega
    · exact T.lt_le hzx (srt_idx T hL hz hqx (by omega))
  have hL' : SrtK key c (L.take i ++ L.drop i) := by rw [List.take_append_drop]; exact hL
  obtain ⟨r1, r2, r3⟩ := srt_app.1 hL'
  refine ⟨srt_app.2 ⟨r1, List.pairwise_cons.2 ⟨fun x hx => T.lt_not (hs x hx), r2⟩, fun x hx z hz => ?_⟩, ?_⟩
  · rcases List.mem_cons.1 hz with rfl | hz
    · exact hg x hx
    · exact r3 x hx z hz
  · have h2 : StS key ([y] ++ L.drop i) (L.drop i ++ [y]) := StS.rot (X := L.drop i) (Y := [y]) fun x hx u hu e => by
      rw [List.mem_singleton.1 hu] at e
      have := hs x hx
      rw [e] at this
      exact T.refl_not _ this
    have h3 := (StS.refl (key := key) (L.take i)).append h2
    have e2 : L.take i ++ (L.drop i ++ [y]) = L ++ [y] := by rw [← List.append_assoc, List.take_append_drop]
    rw [e2] at h3
    exact h3
end
end Go.Proofs.Ytfipacfompihkaa
