/- Plain laws of messages in a stream. No program in sight. Conditions: none. -/
import Derived.Test.YtkdfbmbccopchaaReaderN
namespace Go.Proofs.Ytkdfbmbccopchaa

def numM (a b : UInt8) : Nat := a.toNat * 256 + b.toNat
theorem numM_lt (a b : UInt8) : numM a b < 65536 := by
  have := a.toNat_lt
  have := b.toNat_lt
  unfold numM
  omega
def mssF : Nat → List UInt8 → List (List UInt8) × List UInt8
  | f + 1, a :: b :: t => if numM a b ≤ t.length then (t.take (numM a b) :: (mssF f (t.drop (numM a b))).1, (mssF f (t.drop (numM a b))).2) else ([], a :: b :: t)
  | _, l => ([], l)
/-- The messages with which bytes begin, and what is left behind them. -/
def mss (l : List UInt8) : List (List UInt8) × List UInt8 := mssF l.length l
theorem mssF_short (f : Nat) {l : List UInt8} (h : l.length < 2) : mssF f l = ([], l) := by
  match f, l, h with
  | 0, _, _ => simp [mssF]
  | f + 1, [], _ => simp [mssF]
  | f + 1, [a], _ => simp [mssF]
theorem mssF_more : ∀ (f g : Nat) (l : List UInt8), l.length ≤ f → l.length ≤ g → mssF f l = mssF g l
  | 0, g, l, h, _ => by rw [mssF_short 0 (by omega), mssF_short g (by omega)]
  | f + 1, g, [], _, _ => by rw [mssF_short _ (by simp), mssF_short _ (by simp)]
  | f + 1, g, [a], _, _ => by rw [mssF_short _ (by simp), mssF_short _ (by simp)]
  | f + 1, 0, a :: b :: t, _, h => by simp at h
  | f + 1, g + 1, a :: b :: t, h, h2 => by
    simp only [List.length_cons] at h h2
    rw [mssF, mssF, mssF_more f g (t.drop (numM a b)) (by rw [List.length_drop]; omega) (by rw [List.length_drop]; omega)]
theorem mss_short {l : List UInt8} (h : l.length < 2) : mss l = ([], l) := mssF_short _ h
theorem mss_cons (a b : UInt8) (t : List UInt8) : mss (a :: b :: t) = if numM a b ≤ t.length then (t.take (numM a b) :: (mss (t.drop (numM a b))).1, (mss (t.drop (numM a b))).2) else ([], a :: b :: t) := by
  show mssF (t.length + 1 + 1) (a :: b :: t) = _
  rw [mssF, mssF_more (t.length + 1) (t.drop (numM a b)).length (t.drop (numM a b)) (by rw [List.length_drop]; omega) (Nat.le_refl _)]
  rfl
/-- A message as it stands in a stream; many. -/
def hdM (n : Nat) : List UInt8 := [UInt8.ofNat (n / 256), UInt8.ofNat (n % 256)]
def encM : List (List UInt8) → List UInt8
  | [] => []
  | x :: xs => hdM x.length ++ (x ++ encM xs)
theorem encM_append : ∀ a b : List (List UInt8), encM (a ++ b) = encM a ++ encM b
  | [], b => rfl
  | x :: a, b => by
    show hdM x.length ++ (x ++ encM (a ++ b)) = hdM x.length ++ (x ++ encM a) ++ encM b
    rw [encM_append a b]; simp
theorem encM_length_cons (x : List UInt8) (xs : List (List UInt8)) : (encM (x :: xs)).length = 2 + x.length + (encM xs).length := by simp [encM, hdM]; omega
def endM : List UInt8 → Prop
  | a :: b :: t => t.length < numM a b
  | _ => True
theorem hdM_num (a b : UInt8) : hdM (numM a b) = [a, b] := by
  have h1 := a.toNat_lt
  have h2 := b.toNat_lt
  unfold hdM numM
  rw [show (a.toNat * 256 + b.toNat) / 256 = a.toNat by omega, show (a.toNat * 256 + b.toNat) % 256 = b.toNat by omega, UInt8.ofNat_toNat, UInt8.ofNat_toNat]
theorem num_hdM {n : Nat} (h : n < 65536) : numM (UInt8.ofNat (n / 256)) (UInt8.ofNat (n % 256)) = n := by
  unfold numM
  rw [UInt8.toNat_ofNat', UInt8.toNat_ofNat']
  omega
theorem mss_ind {P : List UInt8 → Prop} (h0 : ∀ l, l.length < 2 → P l) (h1 : ∀ a b t, numM a b ≤ t.length → P (t.drop (numM a b)) → P (a :: b :: t)) (h2 : ∀ a b t, t.length < numM a b → P (a :: b :: t)) : ∀ l, P l := by
  suffices h : ∀ n l, l.length ≤ n → P l from fun l => h l.length l (Nat.le_refl _)
  intro n
  induction n with
  | zero => exact fun l hl => h0 l (by omega)
  | succ n ih =>
    intro l hl
    match l, hl with
    | [], _ => exact h0 _ (by simp)
    | [a], _ => exact h0 _ (by simp)
    | a :: b :: t, hl =>
      simp only [List.length_cons] at hl
      by_cases h : numM a b ≤ t.length
      · exact h1 a b t h (ih _ (by rw [List.length_drop]; omega))
      · exact h2 a b t (by omega)
theorem mss_enc : ∀ l, encM (mss l).1 ++ (mss l).2 = l := by
  refine mss_ind (fun l h => by rw [mss_short h]; rfl) (fun a b t h ih => ?_) (fun a b t h => ?_)
  · rw [mss_cons, if_pos h]
    show hdM (t.take (numM a b)).length ++ (t.take (numM a b) ++ encM (mss (t.drop (numM a b))).1) ++ (mss (t.drop (numM a b))).2 = _
    rw [List.length_take, Nat.min_eq_left h, hdM_num, List.append_assoc, List.append_assoc, ih, List.take_append_drop]
    rfl
  · rw [mss_cons, if_neg (by omega)]
    rfl
theorem mss_ok : ∀ l, ∀ x ∈ (mss l).1, x.length < 65536 := by
  refine mss_ind (fun l h => by rw [mss_short h]; simp) (fun a b t h ih => ?_) (fun a b t h => ?_)
  · rw [mss_cons, if_pos h]
    intro x hx
    rcases List.mem_cons.1 hx with rfl | hx
    · rw [List.length_take]
      have := numM_lt a b
      omega
    · exact ih x hx
  · rw [mss_cons, if_neg (by omega)]
    simp
theorem endM_short {l : List UInt8} (h : l.length < 2) : endM l := by
  match l, h with
  | [], _ => trivial
  | [a], _ => trivial
theorem mss_end : ∀ l, endM (mss l).2 := by
  refine mss_ind (fun l h => by rw [mss_short h]; exact endM_short h) (fun a b t h ih => ?_) (fun a b t h => ?_)
  · rw [mss_cons, if_pos h]; exact ih
  · rw [mss_cons, if_neg (by omega)]; exact h
theorem mss_of_end {r : List UInt8} (h : endM r) : mss r = ([], r) := by
  match r, h with
  | [], _ => exact mss_short (by simp)
  | [a], _ => exact mss_short (by simp)
  | a :: b :: t, h =>
    rw [mss_cons, if_neg]
    have h' : t.length < numM a b := h
    omega
theorem mss_of : ∀ (xs : List (List UInt8)) (r : List UInt8), (∀ x ∈ xs, x.length < 65536) → endM r → mss (encM xs ++ r) = (xs, r)
  | [], r, _, hr => mss_of_end hr
  | x :: xs, r, hx, hr => by
    have e : encM (x :: xs) ++ r = UInt8.ofNat (x.length / 256) :: UInt8.ofNat (x.length % 256) :: (x ++ (encM xs ++ r)) := by simp [encM, hdM]
    have hn := num_hdM (hx x (by simp))
    rw [e, mss_cons, hn, if_pos (by simp), List.take_left, List.drop_left, mss_of xs r (fun y hy => hx y (by simp [hy])) hr]
/-- Split bytes and more bytes: what is left is split with what comes. -/
theorem mss_append (A B : List UInt8) : mss (A ++ B) = ((mss A).1 ++ (mss ((mss A).2 ++ B)).1, (mss ((mss A).2 ++ B)).2) := by
  have h1 := mss_enc A
  have h2 := mss_enc ((mss A).2 ++ B)
  have e : A ++ B = encM ((mss A).1 ++ (mss ((mss A).2 ++ B)).1) ++ (mss ((mss A).2 ++ B)).2 := by
    rw [encM_append, List.append_assoc, h2, ← List.append_assoc, h1]
  rw [e]
  refine mss_of _ _ (fun x hx => ?_) (mss_end _)
  rcases List.mem_append.1 hx with hx | hx
  · exact mss_ok _ x hx
  · exact mss_ok _ x hx
theorem mss_none {l : List UInt8} (h : endM l) : mss l = ([], l) := mss_of_end h

/-! Where each stands -/
def posM (ls : List (List UInt8)) (k : Nat) : Nat := (encM (ls.take k)).length
theorem posM_zero (ls : List (List UInt8)) : posM ls 0 = 0 := rfl
theorem posM_succ {ls : List (List UInt8)} {k : Nat} (h : k < ls.length) : posM ls (k + 1) = posM ls k + 2 + (ls[k]).length := by
  unfold posM
  rw [List.take_succ_eq_append_getElem h, encM_append, List.length_append, encM_length_cons]
  simp [encM]
  omega
theorem drop_posM (l : List UInt8) (k : Nat) : l.drop (posM (mss l).1 k) = encM ((mss l).1.drop k) ++ (mss l).2 := by
  have h := mss_enc l
  have h2 : encM (mss l).1 = encM ((mss l).1.take k) ++ encM ((mss l).1.drop k) := by rw [← encM_append, List.take_append_drop]
  have e : l = encM ((mss l).1.take k) ++ (encM ((mss l).1.drop k) ++ (mss l).2) := by rw [← List.append_assoc, ← h2, h]
  have key : ∀ (A X l' : List UInt8), l' = A ++ X → l'.drop A.length = X := by
    rintro A X _ rfl
    exact List.drop_left
  exact key _ _ l e
theorem posM_le (l : List UInt8) (k : Nat) : posM (mss l).1 k ≤ l.length := by
  have h := congrArg List.length (mss_enc l)
  rw [List.length_append] at h
  have h2 : encM (mss l).1 = encM ((mss l).1.take k) ++ encM ((mss l).1.drop k) := by rw [← encM_append, List.take_append_drop]
  rw [h2, List.length_append] at h
  unfold posM
  omega
/-- What stands at a place. -/
theorem mss_step {l : List UInt8} {k : Nat} (h : k < (mss l).1.length) : ∃ x, (mss l).1[k]? = some x ∧ l.drop (posM (mss l).1 k) = hdM x.length ++ (x ++ l.drop (posM (mss l).1 (k + 1))) ∧ posM (mss l).1 (k + 1) = posM (mss l).1 k + 2 + x.length ∧ x.length < 65536 := by
  refine ⟨_, List.getElem?_eq_getElem h, ?_, posM_succ h, mss_ok l _ (List.getElem_mem h)⟩
  rw [drop_posM, drop_posM, List.drop_eq_getElem_cons h]
  simp [encM]
theorem beN_two (a b : UInt8) : beN [a, b] = numM a b := by simp [beN, numM]
/-! In a text's own words -/
theorem ext_toList (s : ByteArray) (i j : Nat) : (s.extract i j).data.toList = (s.data.toList.drop i).take (j - i) := by
  rw [ByteArray.data_extract, Array.toList_extract, List.extract_eq_take_drop]
theorem ext_mk (s : ByteArray) (i j : Nat) : s.extract i j = ⟨((s.data.toList.drop i).take (j - i)).toArray⟩ := by
  apply ByteArray.ext
  apply Array.toList_inj.1
  rw [ext_toList]
theorem str_step {s : ByteArray} {k : Nat} (h : k < (mss s.data.toList).1.length) : ∃ x, (mss s.data.toList).1[k]? = some x ∧ posM (mss s.data.toList).1 k + 2 ≤ s.size ∧
    beN ((s.extract (posM (mss s.data.toList).1 k) (posM (mss s.data.toList).1 k + 2)).data.toList) = x.length ∧ posM (mss s.data.toList).1 k + 2 + x.length ≤ s.size ∧
    s.extract (posM (mss s.data.toList).1 k + 2) (posM (mss s.data.toList).1 k + 2 + x.length) = ⟨x.toArray⟩ ∧ posM (mss s.data.toList).1 (k + 1) = posM (mss s.data.toList).1 k + 2 + x.length ∧ x.length < 65536 := by
  obtain ⟨x, hx, hd, hp, hl⟩ := mss_step h
  have hle := posM_le s.data.toList (k + 1)
  have hsz : s.data.toList.length = s.size := by simp
  refine ⟨x, hx, by omega, ?_, by omega, ?_, hp, hl⟩
  · rw [ext_toList, hd, show posM (mss s.data.toList).1 k + 2 - posM (mss s.data.toList).1 k = 2 by omega]
    show beN [UInt8.ofNat (x.length / 256), UInt8.ofNat (x.length % 256)] = _
    rw [beN_two, num_hdM hl]
  · rw [ext_mk, show posM (mss s.data.toList).1 k + 2 + x.length - (posM (mss s.data.toList).1 k + 2) = x.length by omega, ← List.drop_drop, hd]
    congr 2
    show (x ++ s.data.toList.drop (posM (mss s.data.toList).1 (k + 1))).take x.length = x
    rw [List.take_left]
theorem str_end (s : ByteArray) : posM (mss s.data.toList).1 (mss s.data.toList).1.length ≤ s.size ∧ (s.size < posM (mss s.data.toList).1 (mss s.data.toList).1.length + 2 ∨
    (posM (mss s.data.toList).1 (mss s.data.toList).1.length + 2 ≤ s.size ∧ s.size < posM (mss s.data.toList).1 (mss s.data.toList).1.length + 2 + beN ((s.extract (posM (mss s.data.toList).1 (mss s.data.toList).1.length) (posM (mss s.data.toList).1 (mss s.data.toList).1.length + 2)).data.toList))) := by
  have hd := drop_posM s.data.toList (mss s.data.toList).1.length
  have hle := posM_le s.data.toList (mss s.data.toList).1.length
  have he := mss_end s.data.toList
  have hsz : s.data.toList.length = s.size := by simp
  rw [List.drop_length] at hd
  have hd' : s.data.toList.drop (posM (mss s.data.toList).1 (mss s.data.toList).1.length) = (mss s.data.toList).2 := hd
  generalize posM (mss s.data.toList).1 (mss s.data.toList).1.length = p at hd' hle ⊢
  refine ⟨by omega, ?_⟩
  by_cases h : s.size < p + 2
  · exact .inl h
  · right
    refine ⟨by omega, ?_⟩
    rw [ext_toList, show p + 2 - p = 2 by omega]
    have hl := congrArg List.length hd'
    rw [List.length_drop] at hl
    rw [← hd'] at he
    match hm : s.data.toList.drop p, he with
    | [], _ => rw [hm] at hd'; rw [← hd'] at hl; simp at hl; omega
    | [a], _ => rw [hm] at hd'; rw [← hd'] at hl; simp at hl; omega
    | a :: b :: t, he =>
      rw [hm] at hd'
      rw [← hd'] at hl
      have he' : t.length < numM a b := he
      show s.size < p + 2 + beN [a, b]
      rw [beN_two]
      simp only [List.length_cons] at hl
      omega
theorem str_rest (s : ByteArray) (p : Nat) : s.extract p s.size = ⟨(s.data.toList.drop p).toArray⟩ := by
  rw [ext_mk]
  congr 2
  rw [List.take_of_length_le]
  rw [List.length_drop]
  simp
end Go.Proofs.Ytkdfbmbccopchaa
