/- Plain laws of the data of records. No program in sight. Conditions: none. -/
import Derived.Test.YtgfpnkakglgokaaLabelMath
namespace Go.Proofs.Ytgfpnkakglgokaa

/-- How many bytes the name has with which l begins; 0: there is none. -/
def nameLen (l : Bs) : Nat := if (labs l).2.head? = some 0 ∧ (enc (labs l).1).length + 1 ≤ 255 then (enc (labs l).1).length + 1 else 0
theorem nameLen_take {l : Bs} {i : Nat} (hi : i ≤ l.length) (h : isName (l.take i) = true) : nameLen l = i := by
  have e := isName_eq h
  have hok := labs_ok (l.take i)
  have h255 := ((isName_iff _).1 h).1
  generalize (labs (l.take i)).1 = ls at e hok
  have el : l = enc ls ++ (0 :: l.drop i) := by
    conv => lhs; rw [← List.take_append_drop i l, e]
    simp
  have hl : labs l = (ls, 0 :: l.drop i) := by
    have := labs_enc_rest ls (0 :: l.drop i) hok (endsR_zero _)
    rw [← el] at this
    exact this
  have hlen : (enc ls).length + 1 = i := by
    have := congrArg List.length e
    rw [List.length_take, Nat.min_eq_left hi] at this
    simp at this; omega
  unfold nameLen
  rw [hl, if_pos ⟨rfl, by rw [List.length_take] at h255; dsimp only; omega⟩]
  exact hlen
theorem nameLen_is {l : Bs} {i : Nat} (h : nameLen l = i) (h0 : 0 < i) : i ≤ l.length ∧ i ≤ 255 ∧ isName (l.take i) = true ∧ l = enc (labs l).1 ++ (0 :: l.drop i) ∧ (enc (labs l).1).length + 1 = i ∧ l.take i = mk (labs l).1 := by
  unfold nameLen at h
  split at h
  · rename_i hc
    have e := labs_enc l
    have hr : ∃ t, (labs l).2 = 0 :: t := by
      cases hr : (labs l).2 with
      | nil => rw [hr] at hc; cases hc.1
      | cons c t =>
        rw [hr] at hc
        have : c = 0 := Option.some.inj hc.1
        exact ⟨t, by rw [this]⟩
    obtain ⟨t, hr⟩ := hr
    rw [hr] at e
    have hlen := congrArg List.length e
    rw [List.length_append, List.length_cons] at hlen
    have hgen : ∀ ls : List Bs, l = enc ls ++ 0 :: t → (enc ls).length + 1 = i → l.take i = mk ls ∧ l.drop i = t := fun ls he hi => by
      have h1 : (mk ls).length = i := by simp [mk]; omega
      have h2 : l = mk ls ++ t := by rw [he]; simp [mk]
      rw [h2, ← h1, List.take_left, List.drop_left]
      exact ⟨rfl, rfl⟩
    obtain ⟨htk, hdr⟩ := hgen _ e h
    refine ⟨by omega, by omega, ?_, by rw [hdr]; exact e, h, htk⟩
    rw [htk]
    exact isName_mk (labs_ok l) (by simp [mk]; omega)
  · omega
theorem nameLen_mk {n r : Bs} (h : isName n = true) : nameLen (n ++ r) = n.length := by
  refine nameLen_take (by simp) ?_
  rw [List.take_left]; exact h
/-- Where the walk of a name's labels stands. -/
def Along (l : Bs) (a : Nat) : Prop := nameLen l = 0 ∨ ∃ k, k ≤ (labs l).1.length ∧ a = pos (labs l).1 k
theorem along_start (l : Bs) : Along l 0 := .inr ⟨0, Nat.zero_le _, (pos_zero _).symm⟩
theorem along_drop {l : Bs} {a k : Nat} (h0 : 0 < nameLen l) (ha : a = pos (labs l).1 k) : l.drop a = enc ((labs l).1.drop k) ++ (0 :: l.drop (nameLen l)) := by
  have h := nameLen_is rfl h0
  rw [ha, drop_pos]
  have e := labs_enc l
  have e2 := h.2.2.2.1
  have : (labs l).2 = 0 :: l.drop (nameLen l) := by
    have e3 : enc (labs l).1 ++ (labs l).2 = enc (labs l).1 ++ (0 :: l.drop (nameLen l)) := e.symm.trans e2
    exact List.append_cancel_left e3
  rw [this]
theorem along_lt {l : Bs} {a : Nat} (h : Along l a) (h0 : 0 < nameLen l) : a < l.length ∧ a < nameLen l := by
  rcases h with h | ⟨k, hk, ha⟩
  · omega
  · have h1 := nameLen_is rfl h0
    have h2 := pos_le (labs l).1 k
    omega
theorem along_zero {l : Bs} {a : Nat} (h : Along l a) (h0 : 0 < nameLen l) (hz : l[a]? = some 0) : a + 1 = nameLen l := by
  rcases h with h | ⟨k, hk, ha⟩
  · omega
  · have h1 := nameLen_is rfl h0
    have hd := along_drop h0 ha
    have hg : (l.drop a)[0]? = some 0 := by rw [List.getElem?_drop]; simpa using hz
    rw [hd] at hg
    by_cases hkl : k = (labs l).1.length
    · have : pos (labs l).1 k = (enc (labs l).1).length := by rw [hkl]; exact pos_all _
      omega
    · have hlt : k < (labs l).1.length := by omega
      rw [List.drop_eq_getElem_cons hlt] at hg
      have hx := labs_ok l _ (List.getElem_mem hlt)
      unfold okL at hx
      simp [enc] at hg
      have h3 : (UInt8.ofNat ((labs l).1[k]).length).toNat = 0 := by rw [hg]; rfl
      rw [UInt8.toNat_ofNat'] at h3
      omega
theorem along_step {l : Bs} {a : Nat} {c : UInt8} (h : Along l a) (hc : l[a]? = some c) (hz : c ≠ 0) : Along l (a + (1 + c.toNat)) := by
  by_cases h0 : nameLen l = 0
  · exact .inl h0
  · have h0' : 0 < nameLen l := by omega
    rcases h with h | ⟨k, hk, ha⟩
    · exact .inl h
    · right
      have hd := along_drop h0' ha
      have hg : (l.drop a)[0]? = some c := by rw [List.getElem?_drop]; simpa using hc
      rw [hd] at hg
      by_cases hkl : k = (labs l).1.length
      · rw [hkl, List.drop_length] at hg
        simp [enc] at hg
        exact absurd hg.symm hz
      · have hlt : k < (labs l).1.length := by omega
        rw [List.drop_eq_getElem_cons hlt] at hg
        have hx := labs_ok l _ (List.getElem_mem hlt)
        unfold okL at hx
        simp [enc] at hg
        have h3 : c.toNat = ((labs l).1[k]).length := by rw [← hg, UInt8.toNat_ofNat']; omega
        refine ⟨k + 1, hlt, ?_⟩
        rw [pos_succ hlt, ha, h3]; omega

/-! The parts of data -/
/-- The names with which l begins, so many, and what is left. -/
def namesN : Nat → Bs → Option (List Bs × Bs)
  | 0, l => some ([], l)
  | k + 1, l => if nameLen l = 0 then none else (namesN k (l.drop (nameLen l))).map fun p => (l.take (nameLen l) :: p.1, p.2)
/-- The numbers of a type's form. -/
def formN (t : Int) : Option (Nat × Nat × Nat) :=
  if t = 2 ∨ t = 5 ∨ t = 12 then some (0, 1, 0) else if t = 15 then some (1, 1, 0) else if t = 33 then some (3, 1, 0) else if t = 6 then some (0, 2, 5) else none
def cutN (f : Nat × Nat × Nat) (l : Bs) : Option (Bs × List Bs × Bs) :=
  if l.length < 2 * f.1 then none else match namesN f.2.1 (l.drop (2 * f.1)) with
    | none => none
    | some (ns, r) => if r.length = 4 * f.2.2 then some (l.take (2 * f.1), ns, r) else none
/-- The texts of which bytes are made. -/
def textsF : Nat → Bs → Option (List Bs)
  | _, [] => some []
  | 0, _ => none
  | f + 1, k :: t => if k.toNat ≤ t.length then (textsF f (t.drop k.toNat)).map (t.take k.toNat :: ·) else none
def textsN (l : Bs) : Option (List Bs) := match textsF l.length l with
  | none => none
  | some ts => if ts = [] then none else some ts
theorem textsF_more : ∀ (f g : Nat) (l : Bs), l.length ≤ f → l.length ≤ g → textsF f l = textsF g l
  | 0, 0, _, _, _ => rfl
  | 0, _ + 1, [], _, _ => rfl
  | 0, _ + 1, _ :: _, h, _ => by simp at h
  | _ + 1, 0, [], _, _ => rfl
  | _ + 1, 0, _ :: _, _, h => by simp at h
  | _ + 1, _ + 1, [], _, _ => rfl
  | f + 1, g + 1, k :: t, h1, h2 => by
    unfold textsF
    rw [textsF_more f g (t.drop k.toNat) (by simp at h1 ⊢; omega) (by simp at h2 ⊢; omega)]
/-- Are data right? -/
def okD (t : Int) (l : Bs) : Bool :=
  decide (l.length ≤ 4096) && (if t = 1 then decide (l.length = 4) else if t = 28 then decide (l.length = 16) else if t = 16 then (textsN l).isSome else match formN t with
    | some f => (cutN f l).isSome
    | none => true)
def chkD (t : Int) (l : Bs) : Int := if okD t l = true then 0 else 2
/-- Right data of a form, in parts. -/
def lookN (t : Int) (l : Bs) : Option (Bs × List Bs × Bs) := match formN t with
  | none => none
  | some f => if l.length ≤ 4096 then cutN f l else none

theorem namesN_len : ∀ (k : Nat) (l : Bs) (ns : List Bs) (r : Bs), namesN k l = some (ns, r) → ns.length = k ∧ l = ns.flatten ++ r ∧ (∀ n ∈ ns, isName n = true)
  | 0, l, ns, r, h => by
    unfold namesN at h
    injection h with h
    injection h with h1 h2
    subst h1 h2
    exact ⟨rfl, by simp, fun n hn => by cases hn⟩
  | k + 1, l, ns, r, h => by
    unfold namesN at h
    split at h
    · cases h
    · rename_i h0
      cases hq : namesN k (l.drop (nameLen l)) with
      | none => rw [hq] at h; cases h
      | some p =>
        rw [hq] at h
        simp at h
        obtain ⟨h1, h2⟩ := h
        subst h1 h2
        obtain ⟨e1, e2, e3⟩ := namesN_len k _ p.1 p.2 hq
        have hn := nameLen_is (l := l) rfl (by omega)
        refine ⟨by simp [e1], ?_, fun n hn' => ?_⟩
        · simp only [List.flatten_cons, List.append_assoc]
          rw [← e2, List.take_append_drop]
        · rcases List.mem_cons.1 hn' with rfl | hn'
          · exact hn.2.2.1
          · exact e3 n hn'
theorem namesN_of : ∀ (ns : List Bs) (r : Bs), (∀ n ∈ ns, isName n = true) → namesN ns.length (ns.flatten ++ r) = some (ns, r)
  | [], r, _ => rfl
  | n :: ns, r, h => by
    have hn := h n (by simp)
    have hm := nameLen_mk (r := ns.flatten ++ r) hn
    have hp : n.length ≠ 0 := by
      have e := isName_eq hn
      intro h0
      have := congrArg List.length e
      simp at this; omega
    simp only [List.flatten_cons, List.length_cons, List.append_assoc]
    unfold namesN
    rw [hm, if_neg hp, List.take_left, List.drop_left, namesN_of ns r (fun x hx => h x (by simp [hx]))]
    rfl
theorem cutN_len {f : Nat × Nat × Nat} {l : Bs} {p : Bs × List Bs × Bs} (h : cutN f l = some p) : l = p.1 ++ (p.2.1.flatten ++ p.2.2) ∧ p.1.length = 2 * f.1 ∧ p.2.1.length = f.2.1 ∧ p.2.2.length = 4 * f.2.2 ∧ ∀ n ∈ p.2.1, isName n = true := by
  unfold cutN at h
  split at h
  · cases h
  · rename_i h0
    split at h
    · cases h
    · rename_i ns r hq
      split at h
      · rename_i hr
        injection h with h
        subst h
        obtain ⟨e1, e2, e3⟩ := namesN_len _ _ _ _ hq
        refine ⟨?_, by dsimp only; rw [List.length_take]; omega, e1, hr, e3⟩
        dsimp only
        rw [← e2, List.take_append_drop]
      · cases h
theorem cutN_of {f : Nat × Nat × Nat} {a : Bs} {ns : List Bs} {r : Bs} (ha : a.length = 2 * f.1) (hn : ns.length = f.2.1) (hr : r.length = 4 * f.2.2) (h : ∀ n ∈ ns, isName n = true) : cutN f (a ++ (ns.flatten ++ r)) = some (a, ns, r) := by
  unfold cutN
  rw [if_neg (by simp; omega), ← ha, List.drop_left, List.take_left, ← hn, namesN_of ns r h]
  dsimp only
  rw [if_pos hr]
end Go.Proofs.Ytgfpnkakglgokaa
