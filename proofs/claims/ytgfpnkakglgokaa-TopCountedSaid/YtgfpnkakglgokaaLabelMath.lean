/- Plain lemmas: names as lists of labels; no program in sight. Conditions: none. -/
namespace Go.Proofs.Ytgfpnkakglgokaa

/-- The bytes of a text. -/
abbrev Bs := List UInt8

/-- A label may begin here: how many bytes it has, and what is behind that. -/
def okB (k : UInt8) (t : Bs) : Bool := decide (k ≠ 0) && decide (k.toNat ≤ 63) && decide (k.toNat ≤ t.length)
theorem okB_iff (k : UInt8) (t : Bs) : okB k t = true ↔ k ≠ 0 ∧ k.toNat ≤ 63 ∧ k.toNat ≤ t.length := by
  simp [okB, and_assoc]

/-- The labels with which a text begins, and what is left behind them. -/
def labsF : Nat → Bs → List Bs × Bs
  | 0, l => ([], l)
  | _ + 1, [] => ([], [])
  | f + 1, k :: t => if okB k t then (t.take k.toNat :: (labsF f (t.drop k.toNat)).1, (labsF f (t.drop k.toNat)).2) else ([], k :: t)
def labs (l : Bs) : List Bs × Bs := labsF l.length l

theorem labsF_more : ∀ (f g : Nat) (l : Bs), l.length ≤ f → l.length ≤ g → labsF f l = labsF g l
  | 0, 0, _, _, _ => rfl
  | 0, g + 1, [], _, _ => rfl
  | 0, _ + 1, _ :: _, h, _ => by simp at h
  | f + 1, 0, [], _, _ => rfl
  | _ + 1, 0, _ :: _, _, h => by simp at h
  | _ + 1, _ + 1, [], _, _ => rfl
  | f + 1, g + 1, k :: t, h1, h2 => by
    simp only [labsF]
    rw [labsF_more f g (t.drop k.toNat) (by simp at h1 ⊢; omega) (by simp at h2 ⊢; omega)]

theorem labs_nil : labs [] = ([], []) := rfl
theorem labs_cons (k : UInt8) (t : Bs) : labs (k :: t) = if okB k t then (t.take k.toNat :: (labs (t.drop k.toNat)).1, (labs (t.drop k.toNat)).2) else ([], k :: t) := by
  unfold labs
  simp only [List.length_cons, labsF]
  rw [labsF_more t.length (t.drop k.toNat).length (t.drop k.toNat) (by simp) (Nat.le_refl _)]

/-- Labels, one behind the other, each behind its length. -/
def enc : List Bs → Bs
  | [] => []
  | x :: xs => UInt8.ofNat x.length :: (x ++ enc xs)
def okL (x : Bs) : Prop := 1 ≤ x.length ∧ x.length ≤ 63
theorem enc_append : ∀ a b : List Bs, enc (a ++ b) = enc a ++ enc b
  | [], _ => rfl
  | x :: a, b => by simp [enc, enc_append a b]
theorem enc_length_cons (x : Bs) (xs : List Bs) : (enc (x :: xs)).length = 1 + x.length + (enc xs).length := by simp [enc]; omega

theorem labs_ind {P : Bs → Prop} (h0 : P []) (h1 : ∀ k t, okB k t = true → P (t.drop k.toNat) → P (k :: t)) (h2 : ∀ k t, okB k t = false → P (k :: t)) : ∀ l, P l := by
  intro l
  generalize hn : l.length = n
  induction n using Nat.strongRecOn generalizing l with
  | ind n ih =>
    cases l with
    | nil => exact h0
    | cons k t =>
      by_cases h : okB k t = true
      · exact h1 k t h (ih (t.drop k.toNat).length (by simp at hn ⊢; omega) _ rfl)
      · exact h2 k t (by simpa using h)

theorem labs_enc : ∀ l : Bs, l = enc (labs l).1 ++ (labs l).2 := by
  apply labs_ind
  · rfl
  · intro k t h ih
    rw [labs_cons, if_pos h]
    have h' := (okB_iff k t).1 h
    simp only [enc, List.length_take, Nat.min_eq_left h'.2.2, UInt8.ofNat_toNat, List.cons_append, List.append_assoc]
    rw [← ih, List.take_append_drop]
  · intro k t h
    rw [labs_cons, if_neg (by simp [h])]
    rfl
theorem labs_ok : ∀ l : Bs, ∀ x ∈ (labs l).1, okL x := by
  apply labs_ind
  · intro x hx; simp [labs_nil] at hx
  · intro k t h ih x hx
    rw [labs_cons, if_pos h] at hx
    have h' := (okB_iff k t).1 h
    have hk : k.toNat ≠ 0 := fun e => h'.1 (UInt8.toNat_inj.1 e)
    rcases List.mem_cons.1 hx with rfl | hx
    · unfold okL; rw [List.length_take, Nat.min_eq_left h'.2.2]; omega
    · exact ih x hx
  · intro k t h x hx
    rw [labs_cons, if_neg (by simp [h])] at hx
    simp at hx
/-- What is left does not begin with a label. -/
def endsR : Bs → Prop
  | [] => True
  | k :: t => okB k t = false
theorem labs_rest : ∀ l : Bs, endsR (labs l).2 := by
  apply labs_ind
  · exact trivial
  · intro k t h ih
    rw [labs_cons, if_pos h]
    exact ih
  · intro k t h
    rw [labs_cons, if_neg (by simp [h])]
    exact h
theorem labs_of_rest : ∀ {r : Bs}, endsR r → labs r = ([], r)
  | [], _ => rfl
  | k :: t, h => by rw [labs_cons, if_neg (by simp [show okB k t = false from h])]
theorem labs_enc_rest : ∀ (ls : List Bs) (r : Bs), (∀ x ∈ ls, okL x) → endsR r → labs (enc ls ++ r) = (ls, r)
  | [], r, _, hr => labs_of_rest hr
  | x :: xs, r, h, hr => by
    have hx := h x (by simp)
    unfold okL at hx
    have e : (UInt8.ofNat x.length).toNat = x.length := by rw [UInt8.toNat_ofNat']; omega
    have ho : okB (UInt8.ofNat x.length) (x ++ enc xs ++ r) = true := by
      rw [okB_iff]
      refine ⟨fun h0 => ?_, by rw [e]; exact hx.2, by rw [e]; simp⟩
      have h3 : (UInt8.ofNat x.length).toNat = 0 := by rw [h0]; rfl
      omega
    show labs (UInt8.ofNat x.length :: (x ++ enc xs ++ r)) = _
    rw [labs_cons, if_pos ho, e, List.append_assoc, List.take_left, List.drop_left, labs_enc_rest xs r (fun y hy => h y (by simp [hy])) hr]
theorem endsR_zero (t : Bs) : endsR (0 :: t) := by simp [endsR, okB]

/-- The place behind the first k labels. -/
def pos (ls : List Bs) (k : Nat) : Nat := (enc (ls.take k)).length
theorem pos_zero (ls : List Bs) : pos ls 0 = 0 := by simp [pos, enc]
theorem pos_succ {ls : List Bs} {k : Nat} (h : k < ls.length) : pos ls (k + 1) = pos ls k + 1 + (ls[k]).length := by
  unfold pos
  rw [List.take_succ_eq_append_getElem h, enc_append, List.length_append, enc_length_cons]
  simp [enc]
  omega
theorem drop_pos (l : Bs) (k : Nat) : l.drop (pos (labs l).1 k) = enc ((labs l).1.drop k) ++ (labs l).2 := by
  have e : l = enc ((labs l).1.take k) ++ (enc ((labs l).1.drop k) ++ (labs l).2) := by
    rw [← List.append_assoc, ← enc_append, List.take_append_drop]
    exact labs_enc l
  unfold pos
  generalize (labs l).1 = ls at e ⊢
  generalize (labs l).2 = r at e ⊢
  rw [e, List.drop_left]
theorem labs_drop (l : Bs) (k : Nat) : labs (l.drop (pos (labs l).1 k)) = ((labs l).1.drop k, (labs l).2) := by
  rw [drop_pos]
  exact labs_enc_rest _ _ (fun x hx => labs_ok l x (List.mem_of_mem_drop hx)) (labs_rest l)
theorem pos_le (ls : List Bs) (k : Nat) : pos ls k ≤ (enc ls).length := by
  unfold pos
  conv => rhs; rw [← List.take_append_drop k ls, enc_append]
  simp
theorem pos_all (ls : List Bs) : pos ls ls.length = (enc ls).length := by simp [pos]
theorem enc_le (l : Bs) : (enc (labs l).1).length + (labs l).2.length = l.length := by
  conv => rhs; rw [labs_enc l]
  simp
/-- The places behind the labels, one by one. -/
def endsL (l : Bs) : List Nat := (List.range (labs l).1.length).map fun i => pos (labs l).1 (i + 1)
theorem endsL_length (l : Bs) : (endsL l).length = (labs l).1.length := by simp [endsL]

/-- Is it a name? -/
def isName (l : Bs) : Bool := decide (l.length ≤ 255) && ((labs l).2 == [0])
theorem isName_iff (l : Bs) : isName l = true ↔ l.length ≤ 255 ∧ (labs l).2 = [0] := by simp [isName]
theorem isName_eq {l : Bs} (h : isName l = true) : l = enc (labs l).1 ++ [0] := by
  conv => lhs; rw [labs_enc l]
  rw [((isName_iff l).1 h).2]
def mk (ls : List Bs) : Bs := enc ls ++ [0]
theorem labs_mk {ls : List Bs} (h : ∀ x ∈ ls, okL x) : labs (mk ls) = (ls, [0]) := labs_enc_rest ls [0] h (endsR_zero [])
theorem isName_mk {ls : List Bs} (h : ∀ x ∈ ls, okL x) (hl : (mk ls).length ≤ 255) : isName (mk ls) = true := by
  rw [isName_iff, labs_mk h]; exact ⟨hl, rfl⟩
theorem mk_labs {l : Bs} (h : isName l = true) : mk (labs l).1 = l := (isName_eq h).symm

/-! Small letters -/
def lowB (c : UInt8) : UInt8 := if 65 ≤ c.toNat ∧ c.toNat ≤ 90 then c + 32 else c
def foldB (l : Bs) : Bs := l.map lowB
theorem foldB_length (l : Bs) : (foldB l).length = l.length := by simp [foldB]
theorem lowB_toNat (c : UInt8) : (lowB c).toNat = if 65 ≤ c.toNat ∧ c.toNat ≤ 90 then c.toNat + 32 else c.toNat := by
  unfold lowB
  split
  · rw [UInt8.toNat_add]; simp; omega
  · rfl
theorem okB_fold (k : UInt8) (t : Bs) : okB (lowB k) (foldB t) = okB k t := by
  rw [Bool.eq_iff_iff, okB_iff, okB_iff, foldB_length]
  have h := lowB_toNat k
  have e : ∀ c : UInt8, c ≠ 0 ↔ c.toNat ≠ 0 := fun c => by
    constructor
    · intro h h2; exact h (UInt8.toNat_inj.1 h2)
    · intro h h2; rw [h2] at h; exact h rfl
  rw [e, e, h]
  split <;> omega
theorem okB_low {k : UInt8} {t : Bs} (h : okB k t = true) : lowB k = k := by
  have h' := (okB_iff k t).1 h
  unfold lowB
  rw [if_neg (by omega)]
theorem labs_fold : ∀ l : Bs, labs (foldB l) = ((labs l).1.map foldB, foldB (labs l).2) := by
  apply labs_ind
  · rfl
  · intro k t h ih
    show labs (lowB k :: foldB t) = _
    rw [labs_cons, okB_fold, if_pos h, labs_cons, if_pos h, okB_low h]
    have e : (foldB t).drop k.toNat = foldB (t.drop k.toNat) := by simp [foldB, List.map_drop]
    rw [e, ih]
    simp [foldB, List.map_take]
  · intro k t h
    show labs (lowB k :: foldB t) = _
    rw [labs_cons, okB_fold, if_neg (by simp [h]), labs_cons, if_neg (by simp [h])]
    rfl
theorem isName_fold (l : Bs) : isName (foldB l) = isName l := by
  have h : (foldB (labs l).2 = [0]) ↔ (labs l).2 = [0] := by
    generalize (labs l).2 = r
    constructor
    · intro h
      match r, h with
      | [c], h =>
        have : lowB c = 0 := by simpa [foldB] using h
        have h2 := congrArg UInt8.toNat this
        rw [lowB_toNat] at h2
        have : c.toNat = 0 := by split at h2 <;> simp at h2 <;> omega
        rw [UInt8.toNat_inj.1 (show c.toNat = (0 : UInt8).toNat from this)]
      | [], h => simp [foldB] at h
      | _ :: _ :: _, h => simp [foldB] at h
    · intro h; rw [h]; rfl
  rw [Bool.eq_iff_iff, isName_iff, isName_iff, labs_fold, foldB_length, h]
end Go.Proofs.Ytgfpnkakglgokaa
