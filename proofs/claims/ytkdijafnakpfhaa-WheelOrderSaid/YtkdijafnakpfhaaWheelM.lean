/- A heap of things that are due, as a list: what its moves do. No program in sight. Conditions: none. -/
import Derived.Test.YtkdijafnakpfhaaBase
namespace Go.Proofs.Ytkdijafnakpfhaa

structure Th where
  id : Int
  t : Int
def Th.lt (a b : Th) : Prop := a.t < b.t ∨ (a.t = b.t ∧ a.id < b.id)
def Th.le (a b : Th) : Prop := a.t < b.t ∨ (a.t = b.t ∧ a.id ≤ b.id)
def Th.ltB (a b : Th) : Bool := if a.t = b.t then decide (a.id < b.id) else decide (a.t < b.t)
theorem Th.ltB_iff (a b : Th) : a.ltB b = true ↔ a.lt b := by
  unfold ltB lt
  by_cases h : a.t = b.t
  · rw [if_pos h, decide_eq_true_eq]; omega
  · rw [if_neg h, decide_eq_true_eq]; omega
theorem Th.ltB_not (a b : Th) : a.ltB b = false ↔ b.le a := by
  rw [← Bool.not_eq_true, Th.ltB_iff]
  unfold lt le
  omega
theorem Th.le_refl (a : Th) : a.le a := by unfold le; omega
theorem Th.le_trans {a b c : Th} (h : a.le b) (k : b.le c) : a.le c := by unfold le at *; omega
theorem Th.lt.le {a b : Th} (h : a.lt b) : a.le b := by unfold Th.le; unfold Th.lt at h; omega
theorem Th.le_anti {a b : Th} (h : a.le b) (k : b.le a) : a = b := by
  obtain ⟨i, t⟩ := a
  obtain ⟨j, u⟩ := b
  unfold le at h k
  dsimp only at h k
  obtain rfl : i = j := by omega
  obtain rfl : t = u := by omega
  rfl

def ath (xs : List Th) (j : Nat) : Th := xs.getD j ⟨0, 0⟩
theorem ath_get {xs : List Th} {j : Nat} {x : Th} (h : xs[j]? = some x) : ath xs j = x := by unfold ath; rw [List.getD_eq_getElem?_getD, h]; rfl
theorem get_ath {xs : List Th} {j : Nat} (h : j < xs.length) : xs[j]? = some (ath xs j) := by
  unfold ath
  rw [List.getD_eq_getElem?_getD, List.getElem?_eq_getElem h]
  rfl
theorem ath_mem {xs : List Th} {j : Nat} (h : j < xs.length) : ath xs j ∈ xs := List.mem_of_getElem? (get_ath h)
theorem mem_ath {xs : List Th} {x : Th} (h : x ∈ xs) : ∃ j, j < xs.length ∧ ath xs j = x := by
  obtain ⟨j, hj, rfl⟩ := List.getElem_of_mem h
  exact ⟨j, hj, ath_get (List.getElem?_eq_getElem hj)⟩
def par (j : Nat) : Nat := (j - 1) / 2
def Okp (xs : List Th) (j : Nat) : Prop := (ath xs (par j)).le (ath xs j)
def HeapL (xs : List Th) : Prop := ∀ j, 0 < j → j < xs.length → Okp xs j
def Gp (xs : List Th) (i : Nat) : Prop := 0 < i → ∀ c, 0 < c → c < xs.length → par c = i → (ath xs (par i)).le (ath xs c)
/-- A heap, but that the thing at i may be less than the one above it. -/
def UpI (xs : List Th) (i : Nat) : Prop := (∀ j, 0 < j → j < xs.length → j ≠ i → Okp xs j) ∧ Gp xs i
/-- A heap, but that the thing at i may be less than the one above it, and greater than those below. -/
def DnI (xs : List Th) (i : Nat) : Prop := (∀ j, 0 < j → j < xs.length → j ≠ i → par j ≠ i → Okp xs j) ∧ Gp xs i
theorem par_lt {j : Nat} (h : 0 < j) : par j < j := by unfold par; omega
theorem heap_up {xs : List Th} (h : HeapL xs) (i : Nat) (hi : i < xs.length) : UpI xs i := by
  refine ⟨fun j h1 h2 _ => h j h1 h2, fun hp c h1 h2 h3 => ?_⟩
  have a := h i hp hi
  have b := h c h1 h2
  unfold Okp at a b
  rw [h3] at b
  exact Th.le_trans a b
theorem up_done {xs : List Th} {i : Nat} (h : UpI xs i) (hi : i = 0 ∨ (ath xs (par i)).le (ath xs i)) : HeapL xs := by
  intro j h1 h2
  by_cases hj : j = i
  · subst hj
    rcases hi with h0 | h0
    · omega
    · exact h0
  · exact h.1 j h1 h2 hj

def swapL (xs : List Th) (i j : Nat) : List Th := (xs.set i (ath xs j)).set j (ath xs i)
theorem swap_len (xs : List Th) (i j : Nat) : (swapL xs i j).length = xs.length := by simp [swapL]
theorem ath_swap {xs : List Th} {i j : Nat} (hi : i < xs.length) (hj : j < xs.length) (k : Nat) : ath (swapL xs i j) k = if k = j then ath xs i else if k = i then ath xs j else ath xs k := by
  unfold swapL
  show (((xs.set i (ath xs j)).set j (ath xs i)).getD k ⟨0, 0⟩) = _
  rw [List.getD_eq_getElem?_getD]
  by_cases h1 : k = j
  · subst h1
    rw [List.getElem?_set_self (by simpa using hj), if_pos rfl]
    rfl
  · rw [List.getElem?_set_ne (fun e => h1 e.symm), if_neg h1]
    by_cases h2 : k = i
    · subst h2
      rw [List.getElem?_set_self hi, if_pos rfl]
      rfl
    · rw [List.getElem?_set_ne (fun e => h2 e.symm), if_neg h2, ← List.getD_eq_getElem?_getD]
      rfl
theorem swap_mem {xs : List Th} {i j : Nat} (hi : i < xs.length) (hj : j < xs.length) (x : Th) : x ∈ swapL xs i j ↔ x ∈ xs := by
  constructor
  · intro h
    obtain ⟨k, hk, rfl⟩ := mem_ath h
    rw [swap_len] at hk
    rw [ath_swap hi hj]
    split
    · exact ath_mem hi
    · split
      · exact ath_mem hj
      · exact ath_mem hk
  · intro h
    obtain ⟨k, hk, rfl⟩ := mem_ath h
    by_cases h1 : k = i
    · subst h1
      have := ath_mem (xs := swapL xs k j) (j := j) (by rw [swap_len]; exact hj)
      rw [ath_swap hi hj, if_pos rfl] at this
      exact this
    · by_cases h2 : k = j
      · subst h2
        have := ath_mem (xs := swapL xs i k) (j := i) (by rw [swap_len]; exact hi)
        rw [ath_swap hi hj, if_neg (fun e => h1 e.symm), if_pos rfl] at this
        exact this
      · have := ath_mem (xs := swapL xs i j) (j := k) (by rw [swap_len]; exact hk)
        rw [ath_swap hi hj, if_neg h2, if_neg h1] at this
        exact this
theorem up_step {xs : List Th} {i : Nat} (h : UpI xs i) (hp : 0 < i) (hi : i < xs.length) (hl : (ath xs i).lt (ath xs (par i))) : UpI (swapL xs i (par i)) (par i) := by
  have hq := par_lt hp
  have hpl : par i < xs.length := by omega
  have S := ath_swap hi hpl
  have L := hl.le
  have ok := h.1
  have gp := h.2 hp
  unfold Okp at ok
  refine ⟨fun j h1 h2 h3 => ?_, fun hp2 c h1 h2 h3 => ?_⟩
  · rw [swap_len] at h2
    unfold Okp
    rw [S (par j), S j, if_neg h3]
    by_cases e1 : j = i
    · subst e1
      rw [if_pos rfl, if_pos rfl]
      exact L
    · rw [if_neg e1]
      by_cases e2 : par j = par i
      · rw [if_pos e2]
        have := ok j h1 h2 e1
        rw [e2] at this
        exact Th.le_trans L this
      · rw [if_neg e2]
        by_cases e3 : par j = i
        · rw [if_pos e3]
          exact gp j h1 h2 e3
        · rw [if_neg e3]
          exact ok j h1 h2 e1
  · rw [swap_len] at h2
    have hq2 := par_lt hp2
    have hup := ok (par i) hp2 hpl (by omega)
    rw [S (par (par i)), S c, if_neg (by omega), if_neg (by omega)]
    have hc : c ≠ par i := by intro e; rw [e] at h3; omega
    rw [if_neg hc]
    by_cases e1 : c = i
    · subst e1
      rw [if_pos rfl]
      exact hup
    · rw [if_neg e1]
      have := ok c h1 h2 e1
      rw [h3] at this
      exact Th.le_trans hup this
theorem down_done {xs : List Th} {i : Nat} (h : DnI xs i) (hc : ∀ c, 0 < c → c < xs.length → par c = i → (ath xs i).le (ath xs c)) : UpI xs i := by
  refine ⟨fun j h1 h2 h3 => ?_, h.2⟩
  by_cases e : par j = i
  · have := hc j h1 h2 e
    unfold Okp
    rw [e]
    exact this
  · exact h.1 j h1 h2 h3 e
theorem down_step {xs : List Th} {i l : Nat} (h : DnI xs i) (hp : 0 < l) (hl : l < xs.length) (hpar : par l = i) (hlt : (ath xs l).lt (ath xs i)) (hmin : ∀ c, 0 < c → c < xs.length → par c = i → (ath xs l).le (ath xs c)) :
    DnI (swapL xs i l) l ∧ (0 < i → Okp (swapL xs i l) i) ∧ Okp (swapL xs i l) l := by
  have hil : i < l := by have := par_lt hp; omega
  have hi : i < xs.length := by omega
  have S := ath_swap hi hl
  have L := hlt.le
  have ok := h.1
  have gp := h.2
  unfold Okp at ok ⊢
  refine ⟨⟨fun j h1 h2 h3 h4 => ?_, fun hp2 c h1 h2 h3 => ?_⟩, fun hp2 => ?_, ?_⟩
  · rw [swap_len] at h2
    show (ath _ (par j)).le (ath _ j)
    rw [S (par j), S j, if_neg h3, if_neg h4]
    by_cases e1 : j = i
    · subst e1
      rw [if_pos rfl, if_neg (by have := par_lt h1; omega)]
      exact gp h1 l hp hl hpar
    · rw [if_neg e1]
      by_cases e2 : par j = i
      · rw [if_pos e2]
        exact hmin j h1 h2 e2
      · rw [if_neg e2]
        exact ok j h1 h2 e1 e2
  · rw [swap_len] at h2
    rw [hpar, S i, S c, if_neg (by omega), if_pos rfl]
    have hcl := par_lt h1
    rw [if_neg (by omega), if_neg (by omega)]
    have := ok c h1 h2 (by omega) (by omega)
    rw [h3] at this
    exact this
  · rw [S (par i), S i, if_neg (by have := par_lt hp2; omega), if_neg (by have := par_lt hp2; omega), if_neg (by omega), if_pos rfl]
    exact gp hp2 l hp hl hpar
  · rw [hpar, S i, S l, if_neg (by omega), if_pos rfl, if_pos rfl]
    exact L
theorem heap_of_down {xs : List Th} {i : Nat} (h : UpI xs i) (hi : 0 < i → Okp xs i) : HeapL xs := by
  refine up_done h ?_
  by_cases h0 : 0 < i
  · exact .inr (hi h0)
  · exact .inl (by omega)
/-- The first is the least. -/
theorem heap_first {xs : List Th} (h : HeapL xs) : ∀ j, j < xs.length → (ath xs 0).le (ath xs j) := by
  intro j
  induction j using Nat.strongRecOn with
  | ind j ih =>
    intro hj
    by_cases h0 : 0 < j
    · have hq := par_lt h0
      exact Th.le_trans (ih (par j) hq (by omega)) (h j h0 hj)
    · obtain rfl : j = 0 := by omega
      exact Th.le_refl _
/-- Where the last has been laid to i, and then is left out. -/
theorem cut_dn {xs : List Th} {i m : Nat} (h : HeapL xs) (hm : m + 1 = xs.length) (hi : i < m) : DnI ((swapL xs i m).take m) i := by
  have S := ath_swap (xs := xs) (i := i) (j := m) (by omega) (by omega)
  have T : ∀ k, k < m → ath ((swapL xs i m).take m) k = ath (swapL xs i m) k := fun k hk => by
    unfold ath
    rw [List.getD_eq_getElem?_getD, List.getD_eq_getElem?_getD, List.getElem?_take_of_lt hk]
  have hlen : ((swapL xs i m).take m).length = m := by rw [List.length_take, swap_len]; omega
  unfold HeapL Okp at h
  refine ⟨fun j h1 h2 h3 h4 => ?_, fun hp c h1 h2 h3 => ?_⟩
  · rw [hlen] at h2
    have := par_lt h1
    unfold Okp
    rw [T _ (by omega), T _ h2, S, S, if_neg (by omega), if_neg h4, if_neg (by omega), if_neg h3]
    exact h j h1 (by omega)
  · rw [hlen] at h2
    have := par_lt h1
    have := par_lt hp
    rw [T _ (by omega), T _ h2, S, S, if_neg (by omega), if_neg (by omega), if_neg (by omega), if_neg (by omega)]
    have a := h i hp (by omega)
    have b := h c h1 (by omega)
    rw [h3] at b
    exact Th.le_trans a b
theorem cut_last {xs : List Th} {m : Nat} (h : HeapL xs) (hm : m ≤ xs.length) : HeapL (xs.take m) := by
  have T : ∀ k, k < m → ath (xs.take m) k = ath xs k := fun k hk => by
    unfold ath
    rw [List.getD_eq_getElem?_getD, List.getD_eq_getElem?_getD, List.getElem?_take_of_lt hk]
  intro j h1 h2
  have hj : j < m := by simp at h2; omega
  have := par_lt h1
  have := h j h1 (by omega)
  unfold Okp at this ⊢
  rw [T _ (by omega), T _ hj]
  exact this
theorem ath_take {xs : List Th} {m k : Nat} (hk : k < m) : ath (xs.take m) k = ath xs k := by
  unfold ath
  rw [List.getD_eq_getElem?_getD, List.getD_eq_getElem?_getD, List.getElem?_take_of_lt hk]
/-- A thing more, at the end. -/
theorem push_up {xs : List Th} (h : HeapL xs) (x : Th) : UpI (xs ++ [x]) xs.length := by
  have T : ∀ k, k < xs.length → ath (xs ++ [x]) k = ath xs k := fun k hk => by
    unfold ath
    rw [List.getD_eq_getElem?_getD, List.getD_eq_getElem?_getD, List.getElem?_append_left hk]
  refine ⟨fun j h1 h2 h3 => ?_, fun hp c h1 h2 h3 => ?_⟩
  · have hj : j < xs.length := by simp at h2; omega
    have := par_lt h1
    unfold Okp
    rw [T _ (by omega), T _ hj]
    exact h j h1 hj
  · exfalso
    have := par_lt h1
    simp at h2
    omega

/-! ### Which thing is where -/
/-- f tells the place of each. -/
def PlOk (xs : List Th) (f : Int → Option Nat) : Prop := (∀ i, i < xs.length → f (ath xs i).id = some i) ∧ ∀ k i, f k = some i → i < xs.length ∧ (ath xs i).id = k
def putF (f : Int → Option Nat) (k : Int) (i : Nat) : Int → Option Nat := fun x => if x = k then some i else f x
def delF (f : Int → Option Nat) (k : Int) : Int → Option Nat := fun x => if x = k then none else f x
theorem PlOk.inj {xs : List Th} {f : Int → Option Nat} (h : PlOk xs f) {i j : Nat} (hi : i < xs.length) (hj : j < xs.length) (e : (ath xs i).id = (ath xs j).id) : i = j := by
  have a := h.1 i hi
  have b := h.1 j hj
  rw [e, b] at a
  injection a with a
  exact a.symm
theorem PlOk.nil_ : PlOk [] (fun _ => none) := ⟨fun i hi => absurd hi (Nat.not_lt_zero _), fun k i h => by cases h⟩
theorem PlOk.swap {xs : List Th} {f : Int → Option Nat} (h : PlOk xs f) {i j : Nat} (hi : i < xs.length) (hj : j < xs.length) (hij : i ≠ j) : PlOk (swapL xs i j) (putF (putF f (ath xs j).id i) (ath xs i).id j) := by
  have S := ath_swap hi hj
  refine ⟨fun k hk => ?_, fun k p hp => ?_⟩
  · rw [swap_len] at hk
    rw [S]
    unfold putF
    by_cases h1 : k = j
    · subst h1; rw [if_pos rfl, if_pos rfl]
    · rw [if_neg h1]
      by_cases h2 : k = i
      · subst h2
        rw [if_pos rfl, if_neg (fun e => h1 (h.inj hk hj e.symm)), if_pos rfl]
      · rw [if_neg h2, if_neg (fun e => h2 (h.inj hk hi e)), if_neg (fun e => h1 (h.inj hk hj e))]
        exact h.1 k hk
  · rw [swap_len, S]
    unfold putF at hp
    by_cases h1 : k = (ath xs i).id
    · rw [if_pos h1] at hp
      injection hp with hp
      subst hp
      rw [if_pos rfl]
      exact ⟨hj, h1.symm⟩
    · rw [if_neg h1] at hp
      by_cases h2 : k = (ath xs j).id
      · rw [if_pos h2] at hp
        injection hp with hp
        subst hp
        rw [if_neg hij, if_pos rfl]
        exact ⟨hi, h2.symm⟩
      · rw [if_neg h2] at hp
        obtain ⟨a, b⟩ := h.2 k p hp
        rw [if_neg (fun e => h2 (by rw [← e]; exact b.symm)), if_neg (fun e => h1 (by rw [← e]; exact b.symm))]
        exact ⟨a, b⟩
theorem PlOk.last {xs : List Th} {f : Int → Option Nat} (h : PlOk xs f) {m : Nat} (hm : m + 1 = xs.length) : PlOk (xs.take m) (delF f (ath xs m).id) := by
  have hlen : (xs.take m).length = m := by rw [List.length_take]; omega
  refine ⟨fun k hk => ?_, fun k p hp => ?_⟩
  · rw [hlen] at hk
    rw [ath_take hk]
    unfold delF
    rw [if_neg (fun e => by have := h.inj (by omega) (by omega) e; omega)]
    exact h.1 k (by omega)
  · unfold delF at hp
    by_cases h1 : k = (ath xs m).id
    · rw [if_pos h1] at hp; cases hp
    · rw [if_neg h1] at hp
      obtain ⟨a, b⟩ := h.2 k p hp
      have hpm : p ≠ m := fun e => h1 (by rw [← e]; exact b.symm)
      have hp2 : p < m := by omega
      rw [hlen, ath_take hp2]
      exact ⟨hp2, b⟩
theorem PlOk.push {xs : List Th} {f : Int → Option Nat} (h : PlOk xs f) {x : Th} (hn : f x.id = none) : PlOk (xs ++ [x]) (putF f x.id xs.length) := by
  have T : ∀ k, k < xs.length → ath (xs ++ [x]) k = ath xs k := fun k hk => by
    unfold ath
    rw [List.getD_eq_getElem?_getD, List.getD_eq_getElem?_getD, List.getElem?_append_left hk]
  have E : ath (xs ++ [x]) xs.length = x := ath_get (by simp)
  refine ⟨fun k hk => ?_, fun k p hp => ?_⟩
  · have hk2 : k < xs.length + 1 := by simpa using hk
    unfold putF
    by_cases h1 : k = xs.length
    · subst h1; rw [E, if_pos rfl]
    · have h2 : k < xs.length := by omega
      rw [T _ h2, if_neg (fun e => by have := h.1 k h2; rw [e, hn] at this; cases this)]
      exact h.1 k h2
  · unfold putF at hp
    by_cases h1 : k = x.id
    · rw [if_pos h1] at hp
      injection hp with hp
      subst hp
      rw [E]
      exact ⟨by simp, h1.symm⟩
    · rw [if_neg h1] at hp
      obtain ⟨a, b⟩ := h.2 k p hp
      rw [T _ a]
      exact ⟨by simp; omega, b⟩

/-! ### What a wheel holds -/
/-- The same things, as many; no two of one number. -/
structure Rep (xs v : List Th) : Prop where
  mem : ∀ x, x ∈ xs ↔ x ∈ v
  len : xs.length = v.length
  ids : ∀ x y, x ∈ v → y ∈ v → x.id = y.id → x = y
theorem Rep.nil_ : Rep [] [] := ⟨fun _ => Iff.rfl, rfl, fun _ _ h => by cases h⟩
def hasId (v : List Th) (k : Int) : Bool := v.any fun x => x.id == k
def dropV (v : List Th) (k : Int) : List Th := v.filter fun x => !(x.id == k)
def addV (v : List Th) (k t : Int) : List Th := if hasId v k = true then v else v ++ [⟨k, t⟩]
theorem hasId_iff (v : List Th) (k : Int) : hasId v k = true ↔ ∃ x, x ∈ v ∧ x.id = k := by simp [hasId]
theorem has_place {xs v : List Th} {f : Int → Option Nat} (hr : Rep xs v) (hp : PlOk xs f) (k : Int) : hasId v k = (f k).isSome := by
  rw [Bool.eq_iff_iff, hasId_iff, Option.isSome_iff_exists]
  constructor
  · rintro ⟨x, hx, rfl⟩
    obtain ⟨j, hj, rfl⟩ := mem_ath ((hr.mem x).2 hx)
    exact ⟨j, hp.1 j hj⟩
  · rintro ⟨i, hi⟩
    obtain ⟨a, b⟩ := hp.2 k i hi
    exact ⟨_, (hr.mem _).1 (ath_mem a), b⟩
theorem Rep.push {xs v : List Th} (h : Rep xs v) {x : Th} (hn : hasId v x.id = false) : Rep (xs ++ [x]) (v ++ [x]) := by
  have hno : ∀ y, y ∈ v → y.id ≠ x.id := fun y hy e => by
    have : hasId v x.id = true := (hasId_iff _ _).2 ⟨y, hy, e⟩
    rw [hn] at this
    cases this
  refine ⟨fun y => by simp [h.mem y], by simp [h.len], fun a b ha hb e => ?_⟩
  simp only [List.mem_append, List.mem_cons, List.not_mem_nil, or_false] at ha hb
  rcases ha with ha | rfl <;> rcases hb with hb | rfl
  · exact h.ids a b ha hb e
  · exact absurd e (hno a ha)
  · exact absurd e.symm (hno b hb)
  · rfl
/-- What is laid otherwise is the same. -/
theorem Rep.congr {xs ys v : List Th} (h : Rep xs v) (hm : ∀ x, x ∈ ys ↔ x ∈ xs) (hl : ys.length = xs.length) : Rep ys v := ⟨fun x => (hm x).trans (h.mem x), hl.trans h.len, h.ids⟩
theorem drop_len {v : List Th} (hnd : (v.map Th.id).Nodup) {x : Th} (hx : x ∈ v) : (dropV v x.id).length + 1 = v.length := by
  induction v with
  | nil => cases hx
  | cons y v ih =>
    simp only [List.map_cons, List.nodup_cons, List.mem_map, not_exists, not_and] at hnd
    unfold dropV at ih ⊢
    rcases List.mem_cons.1 hx with rfl | hx
    · have : v.filter (fun z => !(z.id == x.id)) = v := by
        rw [List.filter_eq_self]
        intro z hz
        have := hnd.1 z hz
        simpa using this
      simp [this]
    · have hne : y.id ≠ x.id := fun e => hnd.1 x hx e.symm
      have := ih hnd.2 hx
      simp [hne, this]
theorem nodup_of {v : List Th} {xs : List Th} {f : Int → Option Nat} (hr : Rep xs v) (hp : PlOk xs f) : (v.map Th.id).Nodup := by
  have hx : (xs.map Th.id).Nodup := by
    rw [List.Nodup, List.pairwise_iff_getElem]
    intro i j hi hj hij e
    have hi2 : i < xs.length := by simpa using hi
    have hj2 : j < xs.length := by simpa using hj
    rw [List.getElem_map, List.getElem_map] at e
    have ei : ath xs i = xs[i] := ath_get (List.getElem?_eq_getElem hi2)
    have ej : ath xs j = xs[j] := ath_get (List.getElem?_eq_getElem hj2)
    rw [← ei, ← ej] at e
    have := hp.inj hi2 hj2 e
    omega
  have key : ∀ (n : Nat) (a b : List Int), a.length = n → a.Nodup → b.length ≤ a.length → (∀ x, x ∈ a → x ∈ b) → b.Nodup := by
    intro n
    induction n with
    | zero =>
      intro a b ha _ hb _
      have : b = [] := List.eq_nil_of_length_eq_zero (by omega)
      rw [this]
      exact List.nodup_nil
    | succ n ih =>
      intro a b ha hn hb hs
      match a, ha with
      | x :: a, ha =>
        rw [List.nodup_cons] at hn
        have hxb : x ∈ b := hs x (by simp)
        have hlen : (b.erase x).length + 1 = b.length := by rw [List.length_erase_of_mem hxb]; have := List.length_pos_of_mem hxb; omega
        have h2 := ih a (b.erase x) (by simpa using ha) hn.2 (by simp at hb; omega) (fun y hy => by
          have hyx : y ≠ x := fun e => hn.1 (e ▸ hy)
          exact (List.mem_erase_of_ne hyx).2 (hs y (by simp [hy])))
        have hnx : x ∉ b.erase x := by
          intro hxx
          -- x occurs twice in b: then a and x have one place too few
          have h3 : (a.length : Nat) ≤ ((b.erase x).erase x).length := by
            have key2 : ∀ (a c : List Int), a.Nodup → (∀ y, y ∈ a → y ∈ c) → a.length ≤ c.length := by
              intro a
              induction a with
              | nil => intro c _ _; simp
              | cons z a ih2 =>
                intro c hn hs
                rw [List.nodup_cons] at hn
                have hz : z ∈ c := hs z (by simp)
                have := ih2 (c.erase z) hn.2 (fun y hy => (List.mem_erase_of_ne (fun e => hn.1 (by rw [← e]; exact hy))).2 (hs y (by simp [hy])))
                rw [List.length_erase_of_mem hz] at this
                have := List.length_pos_of_mem hz
                simp only [List.length_cons]
                omega
            refine key2 a _ hn.2 (fun y hy => ?_)
            have hyx : y ≠ x := fun e => hn.1 (e ▸ hy)
            exact (List.mem_erase_of_ne hyx).2 ((List.mem_erase_of_ne hyx).2 (hs y (by simp [hy])))
          rw [List.length_erase_of_mem hxx] at h3
          have := List.length_pos_of_mem hxx
          simp at hb
          omega
        have hp : b.Perm (x :: b.erase x) := List.perm_cons_erase hxb
        exact hp.nodup_iff.2 (List.nodup_cons.2 ⟨hnx, h2⟩)
  refine key (xs.map Th.id).length (xs.map Th.id) (v.map Th.id) rfl hx (by simp [hr.len]) (fun k hk => ?_)
  obtain ⟨x, hx, rfl⟩ := List.mem_map.1 hk
  exact List.mem_map.2 ⟨x, (hr.mem x).1 hx, rfl⟩
theorem Rep.cut {xs ys v : List Th} {f : Int → Option Nat} (h : Rep xs v) (hp : PlOk xs f) {i : Nat} (hi : i < xs.length) (hl : ys.length + 1 = xs.length) (hm : ∀ x, x ∈ ys ↔ x ∈ xs ∧ x.id ≠ (ath xs i).id) : Rep ys (dropV v (ath xs i).id) := by
  refine ⟨fun x => ?_, ?_, fun x y hx hy e => ?_⟩
  · rw [hm, h.mem]
    unfold dropV
    simp
  · have := drop_len (nodup_of h hp) ((h.mem _).1 (ath_mem hi))
    have := h.len
    omega
  · unfold dropV at hx hy
    exact h.ids x y (List.mem_filter.1 hx).1 (List.mem_filter.1 hy).1 e
/-- What is left when the one at i has been laid to the end and left out. -/
theorem cut_mem {xs : List Th} {f : Int → Option Nat} (hp : PlOk xs f) {i m : Nat} (hm : m + 1 = xs.length) (hi : i < xs.length) (x : Th) : x ∈ (swapL xs i m).take m ↔ x ∈ xs ∧ x.id ≠ (ath xs i).id := by
  have S := ath_swap hi (show m < xs.length by omega)
  have hlen : ((swapL xs i m).take m).length = m := by rw [List.length_take, swap_len]; omega
  constructor
  · intro hx
    obtain ⟨k, hk, rfl⟩ := mem_ath hx
    rw [hlen] at hk
    rw [ath_take hk, S, if_neg (by omega)]
    by_cases h1 : k = i
    · subst h1
      rw [if_pos rfl]
      exact ⟨ath_mem (by omega), fun e => by have := hp.inj (by omega) hi e; omega⟩
    · rw [if_neg h1]
      exact ⟨ath_mem (by omega), fun e => h1 (hp.inj (by omega) hi e)⟩
  · rintro ⟨hx, hne⟩
    obtain ⟨k, hk, rfl⟩ := mem_ath hx
    have hki : k ≠ i := fun e => hne (by rw [e])
    by_cases h1 : k = m
    · subst h1
      have := ath_mem (xs := (swapL xs i k).take k) (j := i) (by rw [hlen]; omega)
      rw [ath_take (by omega), S, if_neg (by omega), if_pos rfl] at this
      exact this
    · have := ath_mem (xs := (swapL xs i m).take m) (j := k) (by rw [hlen]; omega)
      rw [ath_take (by omega), S, if_neg h1, if_neg hki] at this
      exact this

/-! ### What the document says -/
/-- The first one that is due, of one and more. -/
def leastT : Th → List Th → Th
  | a, [] => a
  | a, b :: l => leastT (if b.ltB a = true then b else a) l
theorem leastT_spec (a : Th) (l : List Th) : leastT a l ∈ a :: l ∧ ∀ x, x ∈ a :: l → (leastT a l).le x := by
  induction l generalizing a with
  | nil => exact ⟨by simp [leastT], fun x hx => by simp at hx; subst hx; exact Th.le_refl _⟩
  | cons b l ih =>
    unfold leastT
    cases hb : b.ltB a with
    | true =>
      rw [if_pos rfl]
      obtain ⟨h1, h2⟩ := ih b
      refine ⟨List.mem_cons_of_mem _ h1, fun x hx => ?_⟩
      rcases List.mem_cons.1 hx with rfl | hx
      · exact Th.le_trans (h2 b (by simp)) ((Th.ltB_iff _ _).1 hb).le
      · exact h2 x hx
    | false =>
      rw [if_neg (by simp)]
      obtain ⟨h1, h2⟩ := ih a
      refine ⟨?_, fun x hx => ?_⟩
      · rcases List.mem_cons.1 h1 with h | h
        · rw [h]; simp
        · exact List.mem_cons_of_mem _ (List.mem_cons_of_mem _ h)
      · rcases List.mem_cons.1 hx with rfl | hx
        · exact h2 x (by simp)
        · rcases List.mem_cons.1 hx with rfl | hx
          · exact Th.le_trans (h2 a (by simp)) ((Th.ltB_not _ _).1 hb)
          · exact h2 x (List.mem_cons_of_mem _ hx)
def minV : List Th → Option Th
  | [] => none
  | a :: l => some (leastT a l)
theorem minV_heap {xs v : List Th} (hr : Rep xs v) (hh : HeapL xs) (hp : 0 < xs.length) : minV v = some (ath xs 0) := by
  match v, hr with
  | [], hr => have := hr.len; simp at this; subst this; simp at hp
  | a :: l, hr =>
    show some (leastT a l) = _
    obtain ⟨h1, h2⟩ := leastT_spec a l
    have h3 := h2 _ ((hr.mem _).1 (ath_mem hp))
    obtain ⟨j, hj, e⟩ := mem_ath ((hr.mem _).2 h1)
    have h4 := heap_first hh j hj
    rw [e] at h4
    rw [Th.le_anti h3 h4]
theorem minV_none {v : List Th} : minV v = none ↔ v = [] := by cases v <;> simp [minV]
theorem minV_mem {v : List Th} {x : Th} (h : minV v = some x) : x ∈ v ∧ ∀ y, y ∈ v → x.le y := by
  match v, h with
  | a :: l, h =>
    unfold minV at h
    injection h with h
    subst h
    exact leastT_spec a l
/-- Those that are due, in order, and what is left. -/
def popV : Nat → List Th → Int → List Th × List Th
  | 0, v, _ => ([], v)
  | n + 1, v, now => match minV v with
    | none => ([], v)
    | some x => if x.t ≤ now then ((x :: (popV n (dropV v x.id) now).1), (popV n (dropV v x.id) now).2) else ([], v)
end Go.Proofs.Ytkdijafnakpfhaa
