/- Plain lemmas: names as lists of labels; no program in sight. Conditions: none. Plain laws of the data of records. No program in sight. Conditions: none. Plain lemmas: letters, great and small; no program in sight. Conditions: none. -/

namespace Go.Proofs.YthnngndnpigjbaaGreat

/-- The bytes of a text. -/
abbrev Bs := List UInt8

/-- A label may begin here: how many bytes it has, and what is behind that. -/
def okB (k : UInt8) (t : Bs) : Bool := decide (k ≠ 0) && decide (k.toNat ≤ 63) && decide (k.toNat ≤ t.length)
theorem okB_iff (k : UInt8) (t : Bs) : okB k t = true ↔ k ≠ 0 ∧ k.toNat ≤ 63 ∧ k.toNat ≤ t.length := by
  simp [okB, and_assoc]

/-- The labels with which a text begins, and what is left behind them. -/
def labsF : Nat → Bs → List Bs × Bs
  | 0, l => ([], l)
  | _ + 1, [] => ([], [])
  | f + 1, k :: t => if okB k t then (t.take k.toNat :: (labsF f (t.drop k.toNat)).1, (labsF f (t.drop k.toNat)).2) else ([], k :: t)
def labs (l : Bs) : List Bs × Bs := labsF l.length l

theorem labsF_more : ∀ (f g : Nat) (l : Bs), l.length ≤ f → l.length ≤ g → labsF f l = labsF g l
  | 0, 0, _, _, _ => rfl
  | 0, g + 1, [], _, _ => rfl
  | 0, _ + 1, _ :: _, h, _ => by simp at h
  | f + 1, 0, [], _, _ => rfl
  | _ + 1, 0, _ :: _, _, h => by simp at h
  | _ + 1, _ + 1, [], _, _ => rfl
  | f + 1, g + 1, k :: t, h1, h2 => by
    simp only [labsF]
    rw [labsF_more f g (t.drop k.toNat) (by simp at h1 ⊢; omega) (by simp at h2 ⊢; omega)]

theorem labs_nil : labs [] = ([], []) := rfl
theorem labs_cons (k : UInt8) (t : Bs) : labs (k :: t) = if okB k t then (t.take k.toNat :: (labs (t.drop k.toNat)).1, (labs (t.drop k.toNat)).2) else ([], k :: t) := by
  unfold labs
  simp only [List.length_cons, labsF]
  rw [labsF_more t.length (t.drop k.toNat).length (t.drop k.toNat) (by simp) (Nat.le_refl _)]

/-- Labels, one behind the other, each behind its length. -/
def enc : List Bs → Bs
  | [] => []
  | x :: xs => UInt8.ofNat x.length :: (x ++ enc xs)
def okL (x : Bs) : Prop := 1 ≤ x.length ∧ x.length ≤ 63
theorem enc_append : ∀ a b : List Bs, enc (a ++ b) = enc a ++ enc b
  | [], _ => rfl
  | x :: a, b => by simp [enc, enc_append a b]
theorem enc_length_cons (x : Bs) (xs : List Bs) : (enc (x :: xs)).length = 1 + x.length + (enc xs).length := by simp [enc]; omega

theorem labs_ind {P : Bs → Prop} (h0 : P []) (h1 : ∀ k t, okB k t = true → P (t.drop k.toNat) → P (k :: t)) (h2 : ∀ k t, okB k t = false → P (k :: t)) : ∀ l, P l := by
  intro l
  generalize hn : l.length = n
  induction n using Nat.strongRecOn generalizing l with
  | ind n ih =>
    cases l with
    | nil => exact h0
    | cons k t =>
      by_cases h : okB k t = true
      · exact h1 k t h (ih (t.drop k.toNat).length (by simp at hn ⊢; omega) _ rfl)
      · exact h2 k t (by simpa using h)

theorem labs_enc : ∀ l : Bs, l = enc (labs l).1 ++ (labs l).2 := by
  apply labs_ind
  · rfl
  · intro k t h ih
    rw [labs_cons, if_pos h]
    have h' := (okB_iff k t).1 h
    simp only [enc, List.length_take, Nat.min_eq_left h'.2.2, UInt8.ofNat_toNat, List.cons_append, List.append_assoc]
    rw [← ih, List.take_append_drop]
  · intro k t h
    rw [labs_cons, if_neg (by simp [h])]
    rfl
theorem labs_ok : ∀ l : Bs, ∀ x ∈ (labs l).1, okL x := by
  apply labs_ind
  · intro x hx; simp [labs_nil] at hx
  · intro k t h ih x hx
    rw [labs_cons, if_pos h] at hx
    have h' := (okB_iff k t).1 h
    have hk : k.toNat ≠ 0 := fun e => h'.1 (UInt8.toNat_inj.1 e)
    rcases List.mem_cons.1 hx with rfl | hx
    · unfold okL; rw [List.length_take, Nat.min_eq_left h'.2.2]; omega
    · exact ih x hx
  · intro k t h x hx
    rw [labs_cons, if_neg (by simp [h])] at hx
    simp at hx
/-- What is left does not begin with a label. -/
def endsR : Bs → Prop
  | [] => True
  | k :: t => okB k t = false
theorem labs_rest : ∀ l : Bs, endsR (labs l).2 := by
  apply labs_ind
  · exact trivial
  · intro k t h ih
    rw [labs_cons, if_pos h]
    exact ih
  · intro k t h
    rw [labs_cons, if_neg (by simp [h])]
    exact h
theorem labs_of_rest : ∀ {r : Bs}, endsR r → labs r = ([], r)
  | [], _ => rfl
  | k :: t, h => by rw [labs_cons, if_neg (by simp [show okB k t = false from h])]
theorem labs_enc_rest : ∀ (ls : List Bs) (r : Bs), (∀ x ∈ ls, okL x) → endsR r → labs (enc ls ++ r) = (ls, r)
  | [], r, _, hr => labs_of_rest hr
  | x :: xs, r, h, hr => by
    have hx := h x (by simp)
    unfold okL at hx
    have e : (UInt8.ofNat x.length).toNat = x.length := by rw [UInt8.toNat_ofNat']; omega
    have ho : okB (UInt8.ofNat x.length) (x ++ enc xs ++ r) = true := by
      rw [okB_iff]
      refine ⟨fun h0 => ?_, by rw [e]; exact hx.2, by rw [e]; simp⟩
      have h3 : (UInt8.ofNat x.length).toNat = 0 := by rw [h0]; rfl
      omega
    show labs (UInt8.ofNat x.length :: (x ++ enc xs ++ r)) = _
    rw [labs_cons, if_pos ho, e, List.append_assoc, List.take_left, List.drop_left, labs_enc_rest xs r (fun y hy => h y (by simp [hy])) hr]
theorem endsR_zero (t : Bs) : endsR (0 :: t) := by simp [endsR, okB]

/-- The place behind the first k labels. -/
def pos (ls : List Bs) (k : Nat) : Nat := (enc (ls.take k)).length
theorem pos_zero (ls : List Bs) : pos ls 0 = 0 := by simp [pos, enc]
theorem pos_succ {ls : List Bs} {k : Nat} (h : k < ls.length) : pos ls (k + 1) = pos ls k + 1 + (ls[k]).length := by
  unfold pos
  rw [List.take_succ_eq_append_getElem h, enc_append, List.length_append, enc_length_cons]
  simp [enc]
  omega
theorem drop_pos (l : Bs) (k : Nat) : l.drop (pos (labs l).1 k) = enc ((labs l).1.drop k) ++ (labs l).2 := by
  have e : l = enc ((labs l).1.take k) ++ (enc ((labs l).1.drop k) ++ (labs l).2) := by
    rw [← List.append_assoc, ← enc_append, List.take_append_drop]
    exact labs_enc l
  unfold pos
  generalize (labs l).1 = ls at e ⊢
  generalize (labs l).2 = r at e ⊢
  rw [e, List.drop_left]
theorem labs_drop (l : Bs) (k : Nat) : labs (l.drop (pos (labs l).1 k)) = ((labs l).1.drop k, (labs l).2) := by
  rw [drop_pos]
  exact labs_enc_rest _ _ (fun x hx => labs_ok l x (List.mem_of_mem_drop hx)) (labs_rest l)
theorem pos_le (ls : List Bs) (k : Nat) : pos ls k ≤ (enc ls).length := by
  unfold pos
  conv => rhs; rw [← List.take_append_drop k ls, enc_append]
  simp
theorem pos_all (ls : List Bs) : pos ls ls.length = (enc ls).length := by simp [pos]
theorem enc_le (l : Bs) : (enc (labs l).1).length + (labs l).2.length = l.length := by
  conv => rhs; rw [labs_enc l]
  simp
/-- The places behind the labels, one by one. -/
def endsL (l : Bs) : List Nat := (List.range (labs l).1.length).map fun i => pos (labs l).1 (i + 1)
theorem endsL_length (l : Bs) : (endsL l).length = (labs l).1.length := by simp [endsL]

/-- Is it a name? -/
def isName (l : Bs) : Bool := decide (l.length ≤ 255) && ((labs l).2 == [0])
theorem isName_iff (l : Bs) : isName l = true ↔ l.length ≤ 255 ∧ (labs l).2 = [0] := by simp [isName]
theorem isName_eq {l : Bs} (h : isName l = true) : l = enc (labs l).1 ++ [0] := by
  conv => lhs; rw [labs_enc l]
  rw [((isName_iff l).1 h).2]
def mk (ls : List Bs) : Bs := enc ls ++ [0]
theorem labs_mk {ls : List Bs} (h : ∀ x ∈ ls, okL x) : labs (mk ls) = (ls, [0]) := labs_enc_rest ls [0] h (endsR_zero [])
theorem isName_mk {ls : List Bs} (h : ∀ x ∈ ls, okL x) (hl : (mk ls).length ≤ 255) : isName (mk ls) = true := by
  rw [isName_iff, labs_mk h]; exact ⟨hl, rfl⟩
theorem mk_labs {l : Bs} (h : isName l = true) : mk (labs l).1 = l := (isName_eq h).symm

/-! Small letters -/
def lowB (c : UInt8) : UInt8 := if 65 ≤ c.toNat ∧ c.toNat ≤ 90 then c + 32 else c
def foldB (l : Bs) : Bs := l.map lowB
theorem foldB_length (l : Bs) : (foldB l).length = l.length := by simp [foldB]
theorem lowB_toNat (c : UInt8) : (lowB c).toNat = if 65 ≤ c.toNat ∧ c.toNat ≤ 90 then c.toNat + 32 else c.toNat := by
  unfold lowB
  split
  · rw [UInt8.toNat_add]; simp; omega
  · rfl
theorem okB_fold (k : UInt8) (t : Bs) : okB (lowB k) (foldB t) = okB k t := by
  rw [Bool.eq_iff_iff, okB_iff, okB_iff, foldB_length]
  have h := lowB_toNat k
  have e : ∀ c : UInt8, c ≠ 0 ↔ c.toNat ≠ 0 := fun c => by
    constructor
    · intro h h2; exact h (UInt8.toNat_inj.1 h2)
    · intro h h2; rw [h2] at h; exact h rfl
  rw [e, e, h]
  split <;> omega
theorem okB_low {k : UInt8} {t : Bs} (h : okB k t = true) : lowB k = k := by
  have h' := (okB_iff k t).1 h
  unfold lowB
  rw [if_neg (by omega)]
theorem labs_fold : ∀ l : Bs, labs (foldB l) = ((labs l).1.map foldB, foldB (labs l).2) := by
  apply labs_ind
  · rfl
  · intro k t h ih
    show labs (lowB k :: foldB t) = _
    rw [labs_cons, okB_fold, if_pos h, labs_cons, if_pos h, okB_low h]
    have e : (foldB t).drop k.toNat = foldB (t.drop k.toNat) := by simp [foldB, List.map_drop]
    rw [e, ih]
    simp [foldB, List.map_take]
  · intro k t h
    show labs (lowB k :: foldB t) = _
    rw [labs_cons, okB_fold, if_neg (by simp [h]), labs_cons, if_neg (by simp [h])]
    rfl
theorem isName_fold (l : Bs) : isName (foldB l) = isName l := by
  have h : (foldB (labs l).2 = [0]) ↔ (labs l).2 = [0] := by
    generalize (labs l).2 = r
    constructor
    · intro h
      match r, h with
      | [c], h =>
        have : lowB c = 0 := by simpa [foldB] using h
        have h2 := congrArg UInt8.toNat this
        rw [lowB_toNat] at h2
        have : c.toNat = 0 := by split at h2 <;> simp at h2 <;> omega
        rw [UInt8.toNat_inj.1 (show c.toNat = (0 : UInt8).toNat from this)]
      | [], h => simp [foldB] at h
      | _ :: _ :: _, h => simp [foldB] at h
    · intro h; rw [h]; rfl
  rw [Bool.eq_iff_iff, isName_iff, isName_iff, labs_fold, foldB_length, h]
end Go.Proofs.YthnngndnpigjbaaGreat

namespace Go.Proofs.YthnngndnpigjbaaGreat

/-- How many bytes the name has with which l begins; 0: there is none. -/
def nameLen (l : Bs) : Nat := if (labs l).2.head? = some 0 ∧ (enc (labs l).1).length + 1 ≤ 255 then (enc (labs l).1).length + 1 else 0
theorem nameLen_take {l : Bs} {i : Nat} (hi : i ≤ l.length) (h : isName (l.take i) = true) : nameLen l = i := by
  have e := isName_eq h
  have hok := labs_ok (l.take i)
  have h255 := ((isName_iff _).1 h).1
  generalize (labs (l.take i)).1 = ls at e hok
  have el : l = enc ls ++ (0 :: l.drop i) := by
    conv => lhs; rw [← List.take_append_drop i l, e]
    simp
  have hl : labs l = (ls, 0 :: l.drop i) := by
    have := labs_enc_rest ls (0 :: l.drop i) hok (endsR_zero _)
    rw [← el] at this
    exact this
  have hlen : (enc ls).length + 1 = i := by
    have := congrArg List.length e
    rw [List.length_take, Nat.min_eq_left hi] at this
    simp at this; omega
  unfold nameLen
  rw [hl, if_pos ⟨rfl, by rw [List.length_take] at h255; dsimp only; omega⟩]
  exact hlen
theorem nameLen_is {l : Bs} {i : Nat} (h : nameLen l = i) (h0 : 0 < i) : i ≤ l.length ∧ i ≤ 255 ∧ isName (l.take i) = true ∧ l = enc (labs l).1 ++ (0 :: l.drop i) ∧ (enc (labs l).1).length + 1 = i ∧ l.take i = mk (labs l).1 := by
  unfold nameLen at h
  split at h
  · rename_i hc
    have e := labs_enc l
    have hr : ∃ t, (labs l).2 = 0 :: t := by
      cases hr : (labs l).2 with
      | nil => rw [hr] at hc; cases hc.1
      | cons c t =>
        rw [hr] at hc
        have : c = 0 := Option.some.inj hc.1
        exact ⟨t, by rw [this]⟩
    obtain ⟨t, hr⟩ := hr
    rw [hr] at e
    have hlen := congrArg List.length e
    rw [List.length_append, List.length_cons] at hlen
    have hgen : ∀ ls : List Bs, l = enc ls ++ 0 :: t → (enc ls).length + 1 = i → l.take i = mk ls ∧ l.drop i = t := fun ls he hi => by
      have h1 : (mk ls).length = i := by simp [mk]; omega
      have h2 : l = mk ls ++ t := by rw [he]; simp [mk]
      rw [h2, ← h1, List.take_left, List.drop_left]
      exact ⟨rfl, rfl⟩
    obtain ⟨htk, hdr⟩ := hgen _ e h
    refine ⟨by omega, by omega, ?_, by rw [hdr]; exact e, h, htk⟩
    rw [htk]
    exact isName_mk (labs_ok l) (by simp [mk]; omega)
  · omega
theorem nameLen_mk {n r : Bs} (h : isName n = true) : nameLen (n ++ r) = n.length := by
  refine nameLen_take (by simp) ?_
  rw [List.take_left]; exact h
/-- Where the walk of a name's labels stands. -/
def Along (l : Bs) (a : Nat) : Prop := nameLen l = 0 ∨ ∃ k, k ≤ (labs l).1.length ∧ a = pos (labs l).1 k
theorem along_start (l : Bs) : Along l 0 := .inr ⟨0, Nat.zero_le _, (pos_zero _).symm⟩
theorem along_drop {l : Bs} {a k : Nat} (h0 : 0 < nameLen l) (ha : a = pos (labs l).1 k) : l.drop a = enc ((labs l).1.drop k) ++ (0 :: l.drop (nameLen l)) := by
  have h := nameLen_is rfl h0
  rw [ha, drop_pos]
  have e := labs_enc l
  have e2 := h.2.2.2.1
  have : (labs l).2 = 0 :: l.drop (nameLen l) := by
    have e3 : enc (labs l).1 ++ (labs l).2 = enc (labs l).1 ++ (0 :: l.drop (nameLen l)) := e.symm.trans e2
    exact List.append_cancel_left e3
  rw [this]
theorem along_lt {l : Bs} {a : Nat} (h : Along l a) (h0 : 0 < nameLen l) : a < l.length ∧ a < nameLen l := by
  rcases h with h | ⟨k, hk, ha⟩
  · omega
  · have h1 := nameLen_is rfl h0
    have h2 := pos_le (labs l).1 k
    omega
theorem along_zero {l : Bs} {a : Nat} (h : Along l a) (h0 : 0 < nameLen l) (hz : l[a]? = some 0) : a + 1 = nameLen l := by
  rcases h with h | ⟨k, hk, ha⟩
  · omega
  · have h1 := nameLen_is rfl h0
    have hd := along_drop h0 ha
    have hg : (l.drop a)[0]? = some 0 := by rw [List.getElem?_drop]; simpa using hz
    rw [hd] at hg
    by_cases hkl : k = (labs l).1.length
    · have : pos (labs l).1 k = (enc (labs l).1).length := by rw [hkl]; exact pos_all _
      omega
    · have hlt : k < (labs l).1.length := by omega
      rw [List.drop_eq_getElem_cons hlt] at hg
      have hx := labs_ok l _ (List.getElem_mem hlt)
      unfold okL at hx
      simp [enc] at hg
      have h3 : (UInt8.ofNat ((labs l).1[k]).length).toNat = 0 := by rw [hg]; rfl
      rw [UInt8.toNat_ofNat'] at h3
      omega
theorem along_step {l : Bs} {a : Nat} {c : UInt8} (h : Along l a) (hc : l[a]? = some c) (hz : c ≠ 0) : Along l (a + (1 + c.toNat)) := by
  by_cases h0 : nameLen l = 0
  · exact .inl h0
  · have h0' : 0 < nameLen l := by omega
    rcases h with h | ⟨k, hk, ha⟩
    · exact .inl h
    · right
      have hd := along_drop h0' ha
      have hg : (l.drop a)[0]? = some c := by rw [List.getElem?_drop]; simpa using hc
      rw [hd] at hg
      by_cases hkl : k = (labs l).1.length
      · rw [hkl, List.drop_length] at hg
        simp [enc] at hg
        exact absurd hg.symm hz
      · have hlt : k < (labs l).1.length := by omega
        rw [List.drop_eq_getElem_cons hlt] at hg
        have hx := labs_ok l _ (List.getElem_mem hlt)
        unfold okL at hx
        simp [enc] at hg
        have h3 : c.toNat = ((labs l).1[k]).length := by rw [← hg, UInt8.toNat_ofNat']; omega
        refine ⟨k + 1, hlt, ?_⟩
        rw [pos_succ hlt, ha, h3]; omega

/-! The parts of data -/
/-- The names with which l begins, so many, and what is left. -/
def namesN : Nat → Bs → Option (List Bs × Bs)
  | 0, l => some ([], l)
  | k + 1, l => if nameLen l = 0 then none else (namesN k (l.drop (nameLen l))).map fun p => (l.take (nameLen l) :: p.1, p.2)
/-- The numbers of a type's form. -/
def formN (t : Int) : Option (Nat × Nat × Nat) :=
  if t = 2 ∨ t = 5 ∨ t = 12 then some (0, 1, 0) else if t = 15 then some (1, 1, 0) else if t = 33 then some (3, 1, 0) else if t = 6 then some (0, 2, 5) else none
def cutN (f : Nat × Nat × Nat) (l : Bs) : Option (Bs × List Bs × Bs) :=
  if l.length < 2 * f.1 then none else match namesN f.2.1 (l.drop (2 * f.1)) with
    | none => none
    | some (ns, r) => if r.length = 4 * f.2.2 then some (l.take (2 * f.1), ns, r) else none
/-- The texts of which bytes are made. -/
def textsF : Nat → Bs → Option (List Bs)
  | _, [] => some []
  | 0, _ => none
  | f + 1, k :: t => if k.toNat ≤ t.length then (textsF f (t.drop k.toNat)).map (t.take k.toNat :: ·) else none
def textsN (l : Bs) : Option (List Bs) := match textsF l.length l with
  | none => none
  | some ts => if ts = [] then none else some ts
theorem textsF_more : ∀ (f g : Nat) (l : Bs), l.length ≤ f → l.length ≤ g → textsF f l = textsF g l
  | 0, 0, _, _, _ => rfl
  | 0, _ + 1, [], _, _ => rfl
  | 0, _ + 1, _ :: _, h, _ => by simp at h
  | _ + 1, 0, [], _, _ => rfl
  | _ + 1, 0, _ :: _, _, h => by simp at h
  | _ + 1, _ + 1, [], _, _ => rfl
  | f + 1, g + 1, k :: t, h1, h2 => by
    unfold textsF
    rw [textsF_more f g (t.drop k.toNat) (by simp at h1 ⊢; omega) (by simp at h2 ⊢; omega)]
/-- Are data right? -/
def okD (t : Int) (l : Bs) : Bool :=
  decide (l.length ≤ 4096) && (if t = 1 then decide (l.length = 4) else if t = 28 then decide (l.length = 16) else if t = 16 then (textsN l).isSome else match formN t with
    | some f => (cutN f l).isSome
    | none => true)
def chkD (t : Int) (l : Bs) : Int := if okD t l = true then 0 else 2
/-- Right data of a form, in parts. -/
def lookN (t : Int) (l : Bs) : Option (Bs × List Bs × Bs) := match formN t with
  | none => none
  | some f => if l.length ≤ 4096 then cutN f l else none

theorem namesN_len : ∀ (k : Nat) (l : Bs) (ns : List Bs) (r : Bs), namesN k l = some (ns, r) → ns.length = k ∧ l = ns.flatten ++ r ∧ (∀ n ∈ ns, isName n = true)
  | 0, l, ns, r, h => by
    unfold namesN at h
    injection h with h
    injection h with h1 h2
    subst h1 h2
    exact ⟨rfl, by simp, fun n hn => by cases hn⟩
  | k + 1, l, ns, r, h => by
    unfold namesN at h
    split at h
    · cases h
    · rename_i h0
      cases hq : namesN k (l.drop (nameLen l)) with
      | none => rw [hq] at h; cases h
      | some p =>
        rw [hq] at h
        simp at h
        obtain ⟨h1, h2⟩ := h
        subst h1 h2
        obtain ⟨e1, e2, e3⟩ := namesN_len k _ p.1 p.2 hq
        have hn := nameLen_is (l := l) rfl (by omega)
        refine ⟨by simp [e1], ?_, fun n hn' => ?_⟩
        · simp only [List.flatten_cons, List.append_assoc]
          rw [← e2, List.take_append_drop]
        · rcases List.mem_cons.1 hn' with rfl | hn'
          · exact hn.2.2.1
          · exact e3 n hn'
theorem namesN_of : ∀ (ns : List Bs) (r : Bs), (∀ n ∈ ns, isName n = true) → namesN ns.length (ns.flatten ++ r) = some (ns, r)
  | [], r, _ => rfl
  | n :: ns, r, h => by
    have hn := h n (by simp)
    have hm := nameLen_mk (r := ns.flatten ++ r) hn
    have hp : n.length ≠ 0 := by
      have e := isName_eq hn
      intro h0
      have := congrArg List.length e
      simp at this; omega
    simp only [List.flatten_cons, List.length_cons, List.append_assoc]
    unfold namesN
    rw [hm, if_neg hp, List.take_left, List.drop_left, namesN_of ns r (fun x hx => h x (by simp [hx]))]
    rfl
theorem cutN_len {f : Nat × Nat × Nat} {l : Bs} {p : Bs × List Bs × Bs} (h : cutN f l = some p) : l = p.1 ++ (p.2.1.flatten ++ p.2.2) ∧ p.1.length = 2 * f.1 ∧ p.2.1.length = f.2.1 ∧ p.2.2.length = 4 * f.2.2 ∧ ∀ n ∈ p.2.1, isName n = true := by
  unfold cutN at h
  split at h
  · cases h
  · rename_i h0
    split at h
    · cases h
    · rename_i ns r hq
      split at h
      · rename_i hr
        injection h with h
        subst h
        obtain ⟨e1, e2, e3⟩ := namesN_len _ _ _ _ hq
        refine ⟨?_, by dsimp only; rw [List.length_take]; omega, e1, hr, e3⟩
        dsimp only
        rw [← e2, List.take_append_drop]
      · cases h
theorem cutN_of {f : Nat × Nat × Nat} {a : Bs} {ns : List Bs} {r : Bs} (ha : a.length = 2 * f.1) (hn : ns.length = f.2.1) (hr : r.length = 4 * f.2.2) (h : ∀ n ∈ ns, isName n = true) : cutN f (a ++ (ns.flatten ++ r)) = some (a, ns, r) := by
  unfold cutN
  rw [if_neg (by simp; omega), ← ha, List.drop_left, List.take_left, ← hn, namesN_of ns r h]
  dsimp only
  rw [if_pos hr]
end Go.Proofs.YthnngndnpigjbaaGreat

namespace Go.Proofs.YthnngndnpigjbaaGreat

/-- A letter, great or small. -/
def letB (c : UInt8) : Bool := (decide (65 ≤ c.toNat) && decide (c.toNat ≤ 90)) || (decide (97 ≤ c.toNat) && decide (c.toNat ≤ 122))
theorem letB_iff (c : UInt8) : letB c = true ↔ (65 ≤ c.toNat ∧ c.toNat ≤ 90) ∨ (97 ≤ c.toNat ∧ c.toNat ≤ 122) := by simp [letB]
/-- Byte i. -/
def at0 (l : Bs) (i : Nat) : UInt8 := l[i]?.getD 0
theorem at0_eq {l : Bs} {i : Nat} {c : UInt8} (h : l[i]? = some c) : at0 l i = c := by unfold at0; rw [h]; rfl
/-- The places of the letters among the first i bytes, each with how many are ahead. -/
def lp (l : Bs) : Nat → List (Nat × Nat)
  | 0 => []
  | i + 1 => if letB (at0 l i) then lp l i ++ [(i, (lp l i).length)] else lp l i
theorem lp_yes {l : Bs} {i : Nat} (h : letB (at0 l i) = true) : lp l (i + 1) = lp l i ++ [(i, (lp l i).length)] := by simp [lp, h]
theorem lp_no {l : Bs} {i : Nat} (h : letB (at0 l i) = false) : lp l (i + 1) = lp l i := by simp [lp, h]
theorem lp_prefix (l : Bs) : ∀ {i j : Nat}, i ≤ j → lp l i <+: lp l j
  | i, j, h => by
    induction j with
    | zero =>
      obtain rfl : i = 0 := by omega
      exact List.prefix_refl _
    | succ j ih =>
      by_cases e : i = j + 1
      · subst e
        exact List.prefix_refl _
      · refine (ih (by omega)).trans ?_
        cases hb : letB (at0 l j)
        · rw [lp_no hb]; exact List.prefix_refl _
        · rw [lp_yes hb]; exact List.prefix_append _ _
theorem lp_length_le (l : Bs) (i : Nat) : (lp l i).length ≤ i := by
  induction i with
  | zero => exact Nat.le_refl _
  | succ i ih =>
    cases hb : letB (at0 l i)
    · rw [lp_no hb]; omega
    · rw [lp_yes hb]; simp; omega
/-- All letters of a name; of what is none: none. -/
def letL (l : Bs) : List (Nat × Nat) := if isName l = true then lp l l.length else []
theorem lp_end {l : Bs} {i : Nat} (h : l.length ≤ i) : lp l i = lp l l.length := by
  induction i with
  | zero =>
    have : l.length = 0 := by omega
    rw [this]
  | succ i ih =>
    by_cases e : l.length = i + 1
    · rw [e]
    · have h2 : letB (at0 l i) = false := by
        unfold at0
        rw [List.getElem?_eq_none (by omega)]
        rfl
      rw [lp_no h2, ih (by omega)]

/-- A label's length is no letter, nor is what ends a name. -/
theorem let_small {c : UInt8} (h : c.toNat ≤ 63) : letB c = false := by
  cases hb : letB c
  · rfl
  · rw [letB_iff] at hb; omega
theorem lp_len {l : Bs} {i : Nat} (h : (at0 l i).toNat ≤ 63) : lp l (i + 1) = lp l i := lp_no (let_small h)

/-! Mixing -/
def bitN (d j : Nat) : Bool := decide (d / 2 ^ (j % 64) % 2 = 1)
def mixB (b : Bool) (c : UInt8) : UInt8 := if b then (c ||| 32) &&& 223 else c ||| 32
def stepM (d : Nat) (o : Bs) (x : Nat × Nat) : Bs := o.set x.1 (mixB (bitN d x.2) (at0 o x.1))
def outOf (d : Nat) (l : Bs) (pre : List (Nat × Nat)) : Bs := pre.foldl (stepM d) l
theorem outOf_snoc (d : Nat) (l : Bs) (pre : List (Nat × Nat)) (x : Nat × Nat) : outOf d l (pre ++ [x]) = stepM d (outOf d l pre) x := by simp [outOf]
theorem outOf_length (d : Nat) (l : Bs) : ∀ pre : List (Nat × Nat), (outOf d l pre).length = l.length := by
  intro pre
  unfold outOf
  induction pre generalizing l with
  | nil => rfl
  | cons x pre ih => rw [List.foldl_cons, ih]; simp [stepM]
/-- A name, mixed. -/
def mixL (d : Nat) (l : Bs) : Bs := outOf d l (letL l)
theorem mixL_length (d : Nat) (l : Bs) : (mixL d l).length = l.length := outOf_length d l _
theorem lp_lt {l : Bs} : ∀ {i : Nat} {x : Nat × Nat}, x ∈ lp l i → x.1 < i ∧ letB (at0 l x.1) = true
  | 0, x, h => by simp [lp] at h
  | i + 1, x, h => by
    cases hb : letB (at0 l i)
    · rw [lp_no hb] at h
      have := lp_lt h
      exact ⟨by omega, this.2⟩
    · rw [lp_yes hb, List.mem_append, List.mem_singleton] at h
      rcases h with h | rfl
      · have := lp_lt h
        exact ⟨by omega, this.2⟩
      · exact ⟨by show i < i + 1; omega, hb⟩
theorem letL_lt {l : Bs} {x : Nat × Nat} (h : x ∈ letL l) : x.1 < l.length := by
  unfold letL at h
  split at h
  · exact (lp_lt h).1
  · simp at h

/-! Which are great -/
def great (c : UInt8) : Bool := c &&& 32 == 0
def bitsF (l : Bs) (pre : List (Nat × Nat)) : Nat := pre.foldl (fun n x => if x.2 < 64 ∧ great (at0 l x.1) = true then n ||| 2 ^ x.2 else n) 0
theorem bitsF_snoc (l : Bs) (pre : List (Nat × Nat)) (x : Nat × Nat) : bitsF l (pre ++ [x]) = if x.2 < 64 ∧ great (at0 l x.1) = true then bitsF l pre ||| 2 ^ x.2 else bitsF l pre := by simp [bitsF]
theorem bitsF_lt (l : Bs) (pre : List (Nat × Nat)) : bitsF l pre < 18446744073709551616 := by
  generalize hn : pre.length = n
  induction n generalizing pre with
  | zero => have : pre = [] := List.eq_nil_of_length_eq_zero hn
            subst this; show 0 < _; decide
  | succ n ih =>
    rcases List.eq_nil_or_concat pre with rfl | ⟨p, x, rfl⟩
    · show 0 < _; decide
    · rw [List.concat_eq_append, bitsF_snoc]
      have h := ih p (by simp at hn; exact hn)
      split
      · rename_i h2
        have : 2 ^ x.2 < 2 ^ 64 := Nat.pow_lt_pow_right (by decide) h2.1
        exact Nat.or_lt_two_pow (n := 64) h this
      · exact h
theorem lp_ahead {l : Bs} : ∀ {i : Nat} {pre : List (Nat × Nat)} {x : Nat × Nat}, pre ++ [x] <+: lp l i → x.2 = pre.length
  | 0, pre, x, h => by have := h.length_le; simp [lp] at this
  | i + 1, pre, x, h => by
    cases hb : letB (at0 l i)
    · rw [lp_no hb] at h; exact lp_ahead h
    · rw [lp_yes hb] at h
      by_cases hlen : pre.length < (lp l i).length
      · have : pre ++ [x] <+: lp l i := List.prefix_of_prefix_length_le h (List.prefix_append _ _) (by simp; omega)
        exact lp_ahead this
      · have h1 := h.length_le
        simp at h1
        have h2 : pre ++ [x] = lp l i ++ [(i, (lp l i).length)] := h.eq_of_length (by simp; omega)
        have h3 := List.append_inj h2 (by omega)
        rw [h3.1]
        have := h3.2
        simp at this
        rw [this]
theorem letL_ahead {l : Bs} {pre : List (Nat × Nat)} {x : Nat × Nat} (h : pre ++ [x] <+: letL l) : x.2 = pre.length := by
  unfold letL at h
  split at h
  · exact lp_ahead h
  · have := h.length_le; simp at this
/-- The number whose bits tell which of the first 64 letters are great. -/
def bitsL (l : Bs) : Nat := bitsF l (letL l)
theorem bitsF_ignore (l : Bs) : ∀ (suf pre : List (Nat × Nat)), (∀ x ∈ suf, 64 ≤ x.2) → bitsF l (pre ++ suf) = bitsF l pre
  | [], pre, _ => by simp
  | x :: suf, pre, h => by
    have h1 : pre ++ x :: suf = (pre ++ [x]) ++ suf := by simp
    rw [h1, bitsF_ignore l suf (pre ++ [x]) (fun y hy => h y (by simp [hy])), bitsF_snoc, if_neg]
    intro h2
    have := h x (by simp)
    omega
theorem letL_from {l : Bs} {pre : List (Nat × Nat)} (h : pre <+: letL l) (h64 : 64 ≤ pre.length) : bitsF l (letL l) = bitsF l pre := by
  obtain ⟨suf, hs⟩ := h
  rw [← hs]
  refine bitsF_ignore l suf pre (fun x hx => ?_)
  obtain ⟨a, b, hab⟩ := List.append_of_mem hx
  have : (pre ++ a) ++ [x] <+: letL l := ⟨b, by rw [← hs, hab]; simp⟩
  have := letL_ahead this
  simp at this
  omega
end Go.Proofs.YthnngndnpigjbaaGreat
