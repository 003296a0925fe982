/- Plain laws of names in bytes: how a reader goes through labels and pointers. No program in sight. Conditions: none. -/
import Derived.Test.YtgfpnkakglgokaaLabelMath
namespace Go.Proofs.Ytgfpnkakglgokaa

/-- A reader's way through bytes: the name so far, where this piece began, where it stands, what lies behind the name. -/
def nrun (l : Bs) : Nat → Bs → Nat → Nat → Option Nat → Bs × Option Nat
  | 0, nm, _, _, bh => (nm, bh)
  | f + 1, nm, b, a, bh =>
    if a < l.length ∧ nm.length < 255 then
      if (l.getD a 0).toNat = 0 then (nm ++ [0], some (bh.getD (a + 1)))
      else if (l.getD a 0).toNat ≤ 63 ∧ (l.getD a 0).toNat < l.length - a then nrun l f (nm ++ (l.drop a).take (1 + (l.getD a 0).toNat)) b (a + 1 + (l.getD a 0).toNat) bh
      else if 192 ≤ (l.getD a 0).toNat ∧ a + 1 < l.length then
        if b ≤ (l.getD a 0).toNat * 256 + (l.getD (a + 1) 0).toNat - 49152 then (nm, some (bh.getD (a + 2)))
        else nrun l f nm ((l.getD a 0).toNat * 256 + (l.getD (a + 1) 0).toNat - 49152) ((l.getD a 0).toNat * 256 + (l.getD (a + 1) 0).toNat - 49152) (some (bh.getD (a + 2)))
      else (nm, bh)
    else (nm, bh)
/-- How far it may go yet. -/
def nleft (nm : Bs) (b : Nat) : Nat := 400 - nm.length + b

theorem not_name {ls : List Bs} (h : ∀ x ∈ ls, okL x) : isName (enc ls) = false := by
  have h1 := labs_enc_rest ls [] h trivial
  rw [List.append_nil] at h1
  cases hn : isName (enc ls) with
  | false => rfl
  | true =>
    have := ((isName_iff _).1 hn).2
    rw [h1] at this
    cases this
theorem enc_snoc (ls : List Bs) (x : Bs) : enc (ls ++ [x]) = enc ls ++ (UInt8.ofNat x.length :: x) := by
  rw [enc_append]; simp [enc]
/-- The label that stands at a place. -/
theorem lab_at {l : Bs} {a : Nat} (h : a < l.length) (h0 : (l.getD a 0).toNat ≠ 0) (h1 : (l.getD a 0).toNat ≤ 63) (h2 : (l.getD a 0).toNat < l.length - a) :
    ∃ x, okL x ∧ x.length = (l.getD a 0).toNat ∧ (l.drop a).take (1 + (l.getD a 0).toNat) = UInt8.ofNat x.length :: x := by
  have e : l.drop a = l[a] :: l.drop (a + 1) := List.drop_eq_getElem_cons h
  have eg : l.getD a 0 = l[a] := by simp [List.getD, h]
  rw [eg] at h0 h1 h2 ⊢
  have hl : ((l.drop (a + 1)).take l[a].toNat).length = l[a].toNat := by rw [List.length_take, List.length_drop]; omega
  refine ⟨(l.drop (a + 1)).take l[a].toNat, ⟨by rw [hl]; omega, by rw [hl]; omega⟩, hl, ?_⟩
  rw [e, Nat.add_comm, List.take_succ_cons, hl, UInt8.ofNat_toNat]

/-- It ends in a name just if it came to an end of it. -/
theorem nrun_cases (l : Bs) : ∀ (f : Nat) (ls : List Bs) (b a : Nat) (bh : Option Nat), (∀ x ∈ ls, okL x) →
    (∃ ls' q, (∀ x ∈ ls', okL x) ∧ nrun l f (enc ls) b a bh = (mk ls', some q)) ∨ (isName (nrun l f (enc ls) b a bh).1 = false)
  | 0, ls, b, a, bh, h => .inr (not_name h)
  | f + 1, ls, b, a, bh, h => by
    unfold nrun
    split
    · rename_i hc
      split
      · exact .inl ⟨ls, _, h, rfl⟩
      · split
        · rename_i h0 h1
          obtain ⟨x, hx, _, hxe⟩ := lab_at hc.1 h0 h1.1 h1.2
          rw [hxe, ← enc_snoc]
          exact nrun_cases l f _ _ _ _ fun y hy => by
            rcases List.mem_append.1 hy with hy | hy
            · exact h y hy
            · rw [List.mem_singleton.1 hy]; exact hx
        · split
          · split
            · exact .inr (not_name h)
            · exact nrun_cases l f _ _ _ _ h
          · exact .inr (not_name h)
    · exact .inr (not_name h)
/-- What lies behind the name lies behind where it began. -/
theorem nrun_behind (l : Bs) : ∀ (f : Nat) (nm : Bs) (b a : Nat) (bh : Option Nat) (a0 : Nat), (bh = none → a0 ≤ a) → (∀ q, bh = some q → a0 < q ∧ q ≤ l.length) →
    ∀ q, (nrun l f nm b a bh).2 = some q → a0 < q ∧ q ≤ l.length
  | 0, nm, b, a, bh, a0, h1, h2, q, hq => h2 q hq
  | f + 1, nm, b, a, bh, a0, h1, h2, q, hq => by
    have hg : ∀ k, a + k ≤ l.length → 0 < k → ∀ q, some (bh.getD (a + k)) = some q → a0 < q ∧ q ≤ l.length := fun k hk h0 q hq => by
      cases bh with
      | none => have := h1 rfl; simp at hq; omega
      | some r => have := h2 r rfl; simp at hq; omega
    unfold nrun at hq
    split at hq
    · rename_i hc
      split at hq
      · exact hg 1 (by omega) (by omega) q hq
      · split at hq
        · exact nrun_behind l f _ _ _ _ a0 (fun e => by have := h1 e; omega) h2 q hq
        · split at hq
          · rename_i h3
            split at hq
            · exact hg 2 (by omega) (by omega) q hq
            · exact nrun_behind l f _ _ _ _ a0 (fun e => by cases e) (hg 2 (by omega) (by omega)) q hq
          · exact h2 q hq
    · exact h2 q hq
/-- By fewer bytes it reads the same, or no name. -/
theorem nrun_part (l l' : Bs) (hp : l' <+: l) : ∀ (f : Nat) (ls : List Bs) (b a : Nat) (bh : Option Nat), (∀ x ∈ ls, okL x) → isName (nrun l f (enc ls) b a bh).1 = true →
    isName (nrun l' f (enc ls) b a bh).1 = false ∨ nrun l' f (enc ls) b a bh = nrun l f (enc ls) b a bh
  | 0, ls, b, a, bh, h, _ => .inl (not_name h)
  | f + 1, ls, b, a, bh, h, hn => by
    have hle := hp.length_le
    have hget : ∀ i, i < l'.length → l'.getD i 0 = l.getD i 0 := fun i hi => by
      obtain ⟨t, rfl⟩ := hp
      simp only [List.getD]
      rw [List.getElem?_append_left hi]
    by_cases hc : a < l'.length ∧ (enc ls).length < 255
    · have hc' : a < l.length ∧ (enc ls).length < 255 := ⟨by omega, hc.2⟩
      have e := hget a hc.1
      unfold nrun
      unfold nrun at hn
      rw [if_pos hc, if_pos hc', e]
      rw [if_pos hc'] at hn
      split
      · exact .inr rfl
      · rename_i h0
        rw [if_neg h0] at hn
        by_cases h1 : (l.getD a 0).toNat ≤ 63 ∧ (l.getD a 0).toNat < l'.length - a
        · have h1' : (l.getD a 0).toNat ≤ 63 ∧ (l.getD a 0).toNat < l.length - a := ⟨h1.1, by omega⟩
          rw [if_pos h1, if_pos h1']
          rw [if_pos h1'] at hn
          have et : (l'.drop a).take (1 + (l.getD a 0).toNat) = (l.drop a).take (1 + (l.getD a 0).toNat) := by
            obtain ⟨t, rfl⟩ := hp
            rw [List.drop_append_of_le_length (by omega), List.take_append_of_le_length (by rw [List.length_drop]; omega)]
          obtain ⟨x, hx, _, hxe⟩ := lab_at hc'.1 h0 h1'.1 h1'.2
          rw [et]
          rw [hxe, ← enc_snoc] at hn ⊢
          exact nrun_part l l' hp f _ _ _ _ (fun y hy => by
            rcases List.mem_append.1 hy with hy | hy
            · exact h y hy
            · rw [List.mem_singleton.1 hy]; exact hx) hn
        · rw [if_neg h1]
          by_cases h2 : 192 ≤ (l.getD a 0).toNat ∧ a + 1 < l'.length
          · have h1' : ¬ ((l.getD a 0).toNat ≤ 63 ∧ (l.getD a 0).toNat < l.length - a) := by omega
            have h2' : 192 ≤ (l.getD a 0).toNat ∧ a + 1 < l.length := ⟨h2.1, by omega⟩
            rw [if_neg h1', if_pos h2'] at hn ⊢
            rw [if_pos h2, hget (a + 1) h2.2]
            split
            · exact .inl (not_name h)
            · rename_i h3
              rw [if_neg h3] at hn
              exact nrun_part l l' hp f _ _ _ _ h hn
          · rw [if_neg h2]
            exact .inl (not_name h)
    · left
      unfold nrun
      rw [if_neg hc]
      exact not_name h

/-- A name that can be read at a place, by pointers that lead back; what lies behind it. -/
inductive Enc (l : Bs) : Nat → Nat → List Bs → Nat → Prop
  | root (b a : Nat) : l[a]? = some 0 → Enc l b a [] (a + 1)
  | label (b a : Nat) (x : Bs) (xs : List Bs) (q : Nat) : okL x → (l.drop a).take (1 + x.length) = UInt8.ofNat x.length :: x → Enc l b (a + 1 + x.length) xs q → Enc l b a (x :: xs) q
  | ptr (b a to' : Nat) (x : Bs) (xs : List Bs) (q : Nat) : to' < b → to' < 16384 → l[a]? = some (UInt8.ofNat (192 + to' / 256)) → l[a + 1]? = some (UInt8.ofNat (to' % 256)) → Enc l to' to' (x :: xs) q → Enc l b a (x :: xs) (a + 2)
theorem Enc.more {l : Bs} {b a q : Nat} {ls : List Bs} (h : Enc l b a ls q) (t : Bs) : Enc (l ++ t) b a ls q := by
  have hg : ∀ {i : Nat} {c : UInt8}, l[i]? = some c → (l ++ t)[i]? = some c := fun {i c} h => by
    have hi := (List.getElem?_eq_some_iff.1 h).1
    rw [List.getElem?_append_left hi, h]
  induction h with
  | root b a h => exact .root b a (hg h)
  | label b a x xs q hx he _ ih =>
    refine .label b a x xs q hx ?_ ih
    have hl := congrArg List.length he
    rw [List.length_take, List.length_drop, List.length_cons] at hl
    rw [List.drop_append_of_le_length (by omega), List.take_append_of_le_length (by rw [List.length_drop]; omega), he]
  | ptr b a to' x xs q h0 h1 h2 h3 _ ih => exact .ptr b a to' x xs q h0 h1 (hg h2) (hg h3) ih
theorem Enc.start {l : Bs} {b b' a q : Nat} {ls : List Bs} (h : Enc l b a ls q) (hb : b ≤ b') : Enc l b' a ls q := by
  induction h with
  | root b a h => exact .root b' a h
  | label b a x xs q hx he _ ih => exact .label b' a x xs q hx he (ih hb)
  | ptr b a to' x xs q h0 h1 h2 h3 h4 _ => exact .ptr b' a to' x xs q (by omega) h1 h2 h3 h4
theorem getD_of {l : Bs} {i : Nat} {c : UInt8} (h : l[i]? = some c) : l.getD i 0 = c ∧ i < l.length := by
  refine ⟨by simp [List.getD, h], (List.getElem?_eq_some_iff.1 h).1⟩
/-- It is read. -/
theorem nrun_enc {l : Bs} {b a q : Nat} {ls : List Bs} (h : Enc l b a ls q) : ∀ (f : Nat) (pre : List Bs) (bh : Option Nat), (mk (pre ++ ls)).length ≤ 255 → nleft (enc pre) b < f → 
    nrun l f (enc pre) b a bh = (mk (pre ++ ls), some (bh.getD q)) := by
  induction h with
  | root b a h =>
    intro f pre bh hl hf
    obtain ⟨f, rfl⟩ : ∃ g, f = g + 1 := ⟨f - 1, by omega⟩
    obtain ⟨h1, h2⟩ := getD_of h
    unfold nrun
    have : (enc pre).length < 255 := by rw [List.append_nil] at hl; simp [mk] at hl; omega
    rw [if_pos ⟨h2, this⟩, h1, if_pos (show (0 : UInt8).toNat = 0 from rfl), List.append_nil]
    rfl
  | label b a x xs q hx he _ ih =>
    intro f pre bh hl hf
    obtain ⟨f, rfl⟩ : ∃ g, f = g + 1 := ⟨f - 1, by omega⟩
    unfold okL at hx
    have hlen := congrArg List.length he
    rw [List.length_take, List.length_drop, List.length_cons] at hlen
    have h0 : l.drop a = l[a]'(by omega) :: l.drop (a + 1) := List.drop_eq_getElem_cons (by omega)
    have h1 : l.getD a 0 = UInt8.ofNat x.length := by
      rw [h0, Nat.add_comm, List.take_succ_cons] at he
      injection he with he _
      rw [← he]
      simp [List.getD, show a < l.length by omega]
    have h2 : (UInt8.ofNat x.length).toNat = x.length := by rw [UInt8.toNat_ofNat']; omega
    unfold nrun
    have hpl : (mk (pre ++ x :: xs)).length = (enc pre).length + 1 + x.length + (enc xs).length + 1 := by
      simp [mk, enc_append, enc]; omega
    rw [if_pos ⟨by omega, by omega⟩, h1, h2, if_neg (by omega), if_pos ⟨by omega, by omega⟩, he, ← enc_snoc]
    rw [ih f (pre ++ [x]) bh (by simpa using hl) (by
      have : (enc (pre ++ [x])).length = (enc pre).length + 1 + x.length := by rw [enc_snoc]; simp; omega
      unfold nleft at *
      rw [this]; omega)]
    simp
  | ptr b a to' x xs q h0 h1 h2 h3 _ ih =>
    intro f pre bh hl hf
    obtain ⟨f, rfl⟩ : ∃ g, f = g + 1 := ⟨f - 1, by omega⟩
    obtain ⟨e1, l1⟩ := getD_of h2
    obtain ⟨e2, l2⟩ := getD_of h3
    have t1 : (UInt8.ofNat (192 + to' / 256)).toNat = 192 + to' / 256 := by rw [UInt8.toNat_ofNat']; omega
    have t2 : (UInt8.ofNat (to' % 256)).toNat = to' % 256 := by rw [UInt8.toNat_ofNat']; omega
    have hpl : (mk (pre ++ x :: xs)).length = (enc pre).length + 1 + x.length + (enc xs).length + 1 := by
      simp [mk, enc_append, enc]; omega
    unfold nrun
    rw [if_pos ⟨by omega, by omega⟩, e1, e2, t1, t2, if_neg (by omega), if_neg (by omega), if_pos ⟨by omega, by omega⟩,
      show (192 + to' / 256) * 256 + to' % 256 - 49152 = to' by omega, if_neg (by omega)]
    rw [ih f pre (some (bh.getD (a + 2))) hl (by unfold nleft at *; omega)]
    rfl

/-! What a writer writes -/
/-- Where rests of names were written. -/
abbrev Rests := Bs → Option Nat
def updR (R : Rests) (k : Bs) (p : Nat) : Rests := fun x => if x = k then some p else R x
/-- A name, written behind l. -/
def wname (pt : Bool) : List Bs → Bs → Rests → Bs × Rests
  | [], l, R => (l ++ [0], R)
  | x :: xs, l, R =>
    match R (mk (x :: xs)) with
    | some p => if pt = true then (l ++ [UInt8.ofNat (192 + p / 256), UInt8.ofNat (p % 256)], R) else wname pt xs (l ++ (UInt8.ofNat x.length :: x)) R
    | none => wname pt xs (l ++ (UInt8.ofNat x.length :: x)) (if l.length < 16384 then updR R (mk (x :: xs)) l.length else R)
/-- What is known can be read. -/
def OkR (l : Bs) (R : Rests) : Prop := ∀ k p, R k = some p → p < 16384 ∧ p < l.length ∧ ∃ x xs q, k = mk (x :: xs) ∧ (∀ y ∈ x :: xs, okL y) ∧ Enc l p p (x :: xs) q
theorem OkR.more {l : Bs} {R : Rests} (h : OkR l R) (t : Bs) : OkR (l ++ t) R := fun k p hk => by
  obtain ⟨h1, h2, x, xs, q, h3, h4, h5⟩ := h k p hk
  exact ⟨h1, by rw [List.length_append]; omega, x, xs, q, h3, h4, h5.more t⟩
theorem OkR.none (l : Bs) : OkR l (fun _ => none) := fun _ _ h => by cases h
theorem mk_inj {ls ls' : List Bs} (h : ∀ x ∈ ls, okL x) (h' : ∀ x ∈ ls', okL x) (e : mk ls = mk ls') : ls = ls' := by
  have h1 := labs_mk h
  rw [e, labs_mk h'] at h1
  injection h1 with h1 _
  exact h1.symm
/-- What a writer of a name has behind it: old bytes, the name can be read, what is known can be read. Its own rests are known from b on: they are as long as what is written is short. -/
theorem wname_ok (pt : Bool) : ∀ (ls : List Bs) (b : Nat) (l : Bs) (R R0 : Rests), (∀ x ∈ ls, okL x) → b ≤ l.length → OkR (l.take b) R0 →
    (∀ k p, R k = some p → R0 k = some p ∨ (p < 16384 ∧ b ≤ p ∧ (mk ls).length < k.length)) → (∀ k p, R0 k = some p → R k = some p) →
    ∃ t, (wname pt ls l R).1 = l ++ t ∧ 1 ≤ t.length ∧ t.length ≤ (mk ls).length ∧ Enc (l ++ t) b l.length ls (l ++ t).length ∧
      ∀ k p, (wname pt ls l R).2 k = some p → R k = some p ∨ (p < 16384 ∧ l.length ≤ p ∧ p < (l ++ t).length ∧ ∃ x xs q, k = mk (x :: xs) ∧ (∀ y ∈ x :: xs, okL y) ∧ Enc (l ++ t) p p (x :: xs) q)
  | [], b, l, R, R0, h, hb, hO, hR, hR0 => by
    refine ⟨[0], rfl, by simp, by simp [mk], ?_, fun k p hk => .inl hk⟩
    have := Enc.root (l := l ++ [0]) b l.length (by simp)
    simpa using this
  | x :: xs, b, l, R, R0, h, hb, hO, hR, hR0 => by
    have hx := h x (by simp)
    have hxs : ∀ y ∈ xs, okL y := fun y hy => h y (by simp [hy])
    have hml : (mk (x :: xs)).length = 1 + x.length + (mk xs).length := by simp [mk, enc]; omega
    have hlab : ∀ t : Bs, ((l ++ (UInt8.ofNat x.length :: x) ++ t).drop l.length).take (1 + x.length) = UInt8.ofNat x.length :: x := fun t => by
      rw [List.append_assoc, List.drop_left, Nat.add_comm, List.cons_append, List.take_succ_cons, List.take_left]
    unfold wname
    cases hk : R (mk (x :: xs)) with
    | some p =>
      dsimp only
      have hR0k : R0 (mk (x :: xs)) = some p := by
        rcases hR _ _ hk with h' | ⟨_, _, h'⟩
        · exact h'
        · omega
      by_cases hpt : pt = true
      · rw [if_pos hpt]
        obtain ⟨h1, h2, y, ys, q, h3, h4, h5⟩ := hO _ _ hR0k
        have e := mk_inj h h4 h3
        rw [← e] at h5
        have h6 := h5.more (l.drop b ++ [UInt8.ofNat (192 + p / 256), UInt8.ofNat (p % 256)])
        rw [← List.append_assoc, List.take_append_drop] at h6
        refine ⟨_, rfl, by simp, by rw [hml]; unfold okL at hx; simp; omega, ?_, fun k p hk => .inl hk⟩
        have := Enc.ptr (l := l ++ [UInt8.ofNat (192 + p / 256), UInt8.ofNat (p % 256)]) b l.length p x xs q (by rw [List.length_take] at h2; omega) h1 (by simp) (by simp) h6
        simpa using this
      · rw [if_neg hpt]
        obtain ⟨t, e, t1, t2, t3, t4⟩ := wname_ok pt xs b (l ++ (UInt8.ofNat x.length :: x)) R R0 hxs (by simp; omega) (by rw [List.take_append_of_le_length hb]; exact hO)
          (fun k p hk => (hR k p hk).imp_right fun h' => ⟨h'.1, h'.2.1, by omega⟩) hR0
        refine ⟨UInt8.ofNat x.length :: x ++ t, by rw [e, List.append_assoc], by simp <;> omega, by rw [hml]; simp <;> omega, ?_, fun k p hk => ?_⟩
        · have := Enc.label (l := l ++ (UInt8.ofNat x.length :: x) ++ t) b l.length x xs (l ++ (UInt8.ofNat x.length :: x) ++ t).length hx (hlab t) (by simpa [Nat.add_assoc, Nat.add_comm, Nat.add_left_comm] using t3)
          simp only [List.append_assoc] at this
          exact this
        · rcases t4 k p hk with h' | ⟨h1, h2, h3⟩
          · exact .inl h'
          · exact .inr ⟨h1, by simp at h2; omega, by simpa [List.append_assoc] using h3⟩
    | none =>
      dsimp only
      obtain ⟨t, e, t1, t2, t3, t4⟩ := wname_ok pt xs b (l ++ (UInt8.ofNat x.length :: x)) (if l.length < 16384 then updR R (mk (x :: xs)) l.length else R) R0 hxs (by simp; omega) (by rw [List.take_append_of_le_length hb]; exact hO)
          (fun k p hk => by
            split at hk
            · unfold updR at hk
              split at hk
              · rename_i hkk
                injection hk with hk
                subst hkk
                exact .inr ⟨by omega, by omega, by omega⟩
              · exact (hR k p hk).imp_right fun h' => ⟨h'.1, h'.2.1, by omega⟩
            · exact (hR k p hk).imp_right fun h' => ⟨h'.1, h'.2.1, by omega⟩)
          (fun k p hk => by
            have hRk := hR0 k p hk
            split
            · unfold updR
              rw [if_neg (fun e => by rw [e] at hRk; rename_i hno _; rw [hRk] at hno; cases hno)]
              exact hRk
            · exact hRk)
      have hE : Enc (l ++ (UInt8.ofNat x.length :: x) ++ t) b l.length (x :: xs) (l ++ (UInt8.ofNat x.length :: x) ++ t).length :=
        Enc.label b l.length x xs _ hx (hlab t) (by simpa [Nat.add_assoc, Nat.add_comm, Nat.add_left_comm] using t3)
      refine ⟨UInt8.ofNat x.length :: x ++ t, by rw [e, List.append_assoc], by simp <;> omega, by rw [hml]; simp <;> omega, ?_, fun k p hk => ?_⟩
      · simpa [List.append_assoc] using hE
      · rcases t4 k p hk with h' | ⟨h1, h2, h3⟩
        · split at h'
          · unfold updR at h'
            split at h'
            · rename_i h16 hkk
              injection h' with h'
              subst h'
              refine .inr ⟨h16, Nat.le_refl _, by simp, x, xs, (l ++ (UInt8.ofNat x.length :: x) ++ t).length, hkk, h, ?_⟩
              have := hE.start hb
              simpa [List.append_assoc] using this
            · exact .inl h'
          · exact .inl h'
        · exact .inr ⟨h1, by simp at h2; omega, by simpa [List.append_assoc] using h3⟩
/-- One more name. -/
theorem wname_more {pt : Bool} {ls : List Bs} {l : Bs} {R : Rests} (h : ∀ x ∈ ls, okL x) (hO : OkR l R) :
    ∃ t, (wname pt ls l R).1 = l ++ t ∧ 1 ≤ t.length ∧ t.length ≤ (mk ls).length ∧ Enc (l ++ t) l.length l.length ls (l ++ t).length ∧ OkR (l ++ t) (wname pt ls l R).2 := by
  obtain ⟨t, h1, h2, h3, h4, h5⟩ := wname_ok pt ls l.length l R R h (Nat.le_refl _) (by rw [List.take_length]; exact hO) (fun k p hk => .inl hk) (fun k p hk => hk)
  refine ⟨t, h1, h2, h3, h4, fun k p hk => ?_⟩
  rcases h5 k p hk with h' | ⟨e1, e2, e3, e4⟩
  · obtain ⟨h1, h2, x, xs, q, h3, h4, h5⟩ := hO k p h'
    exact ⟨h1, by rw [List.length_append]; omega, x, xs, q, h3, h4, h5.more t⟩
  · exact ⟨e1, e3, e4⟩
end Go.Proofs.Ytgfpnkakglgokaa
