/- The walk of hardtacklaw07.EdnsBack. Conditions: none. -/
import Derived.Test.YthjkdpphbipgfaaLives07
import Derived.Test.YthjkdpphbipgfaaEdSmall
import Derived.Test.YthjkdpphbipgfaaMsgSmall
import Derived.Deep.DeepCutAuto
namespace Go.Proofs.Ythjkdpphbipgfaa
open Go.RowKit Go.Shelf Go.Lib

/-- What may be put in. -/
structure PutIn (w W : World) (th : Bool) (A : Option Addr) (xs : List Opt) : Prop where
  b : Below w.heap.size w W
  o : OTab W A xs
  l : xs.length ≤ 61
  s : ∀ o ∈ xs, o.d.size ≤ 16384
theorem PutIn.below {w W V : World} {th : Bool} {A : Option Addr} {xs : List Opt} (h : PutIn w W th A xs) (k : Below W.heap.size W V) : PutIn w V th A xs := ⟨belowT h.b k, h.o.below k, h.l, h.s⟩
def ednsC (th : Bool) (sz hi ve fl : Int) (A : Option Addr) (n c : Nat) : Array Value := #[.bool th, .int .u16 sz, .int .u8 hi, .int .u8 ve, .int .u16 fl, .slice A n c]
def BackCut (w : World) (sz hi ve fl : Int) (m : MRec) (SA HA2 EA : Option Addr) (wx : World) : Prop :=
  ∃ (th : Bool) (A : Option Addr) (xs : List Opt) (c : Nat), Blk wx (w.heap.size + 1) 45 (ednsC th sz hi ve fl A xs.length c) ∧ Blk wx w.heap.size 26 #[.int .u16 m.id, .int .u16 m.bi, .slice m.qA m.q.length m.qc, .slice SA m.s.length m.sc, .slice HA2 m.h.length m.hc, .slice EA m.e.length m.ec] ∧ PutIn w wx th A xs

theorem otab_far {w w' : World} {A : Option Addr} {xs : List Opt} {g : Nat} {v0 : Bool} {v1 v2 v3 v4 : Int} {B : Option Addr} {n c : Nat} (h : OTab w A xs) (hB : Blk w g 45 #[.bool v0, .int .u16 v1, .int .u8 v2, .int .u8 v3, .int .u16 v4, .slice B n c]) (k : KeepK (fun i => i ≠ g) w w') : OTab w' A xs := by
  refine ⟨h.1, fun hn => ?_⟩
  obtain ⟨b, off, hA, hlt, hc⟩ := h.2 hn
  have hne : b ≠ g := by
    rintro rfl
    have h1 := hc 0 xs[0] (List.getElem?_eq_getElem hn) 1 _ rfl
    rw [hB.cell] at h1
    simp only [Nat.zero_mul, Nat.add_zero] at h1
    match off, h1 with
    | 0, h1 => simp at h1
    | 1, h1 => simp at h1
    | 2, h1 => simp at h1
    | 3, h1 => simp at h1
    | 4, h1 => simp at h1
    | off + 5, h1 => simp at h1
  exact ⟨b, off, hA, Nat.lt_of_lt_of_le hlt k.size, fun j e he i v hv => (k.cell (p := ⟨b, off + j * 2 + i, none⟩) hne).trans (hc j e he i v hv)⟩
theorem msg_noStr {w : World} {g : Nat} {v0 v1 : Int} {A B C D : Option Addr} {a a' b b' c c' d d' : Nat} (hB : Blk w g 26 #[.int .u16 v0, .int .u16 v1, .slice A a a', .slice B b b', .slice C c c', .slice D d d']) (off : Nat) (s : ByteArray) (h : w.cell? ⟨g, off, none⟩ = some (.string s)) : False := by
  rw [hB.cell] at h
  match off, h with
  | 0, h => simp at h
  | 1, h => simp at h
  | 2, h => simp at h
  | 3, h => simp at h
  | 4, h => simp at h
  | 5, h => simp at h
  | off + 6, h => simp at h
theorem otab_farM {w w' : World} {A : Option Addr} {xs : List Opt} {g1 g2 : Nat} (h : OTab w A xs) (h1 : ∀ off s, w.cell? ⟨g1, off, none⟩ = some (.string s) → False) (h2 : ∀ off s, w.cell? ⟨g2, off, none⟩ = some (.string s) → False) (k : KeepK (fun i => i ≠ g1 ∧ i ≠ g2) w w') : OTab w' A xs := by
  refine ⟨h.1, fun hn => ?_⟩
  obtain ⟨b, off, hA, hlt, hc⟩ := h.2 hn
  have hs := hc 0 xs[0] (List.getElem?_eq_getElem hn) 1 _ rfl
  have hg1 : b ≠ g1 := by rintro rfl; exact h1 _ _ hs
  have hg2 : b ≠ g2 := by rintro rfl; exact h2 _ _ hs
  exact ⟨b, off, hA, Nat.lt_of_lt_of_le hlt k.size, fun j e he i v hv => (k.cell (p := ⟨b, off + j * 2 + i, none⟩) ⟨hg1, hg2⟩).trans (hc j e he i v hv)⟩
theorem gtab_farM {α : Type} {vs : α → List Value} {q : Nat} {w w' : World} {A : Option Addr} {xs : List α} {g1 g2 : Nat} (h : GTab vs q w A xs) (h0 : ∀ e, ∃ s, (vs e)[0]? = some (.string s)) (h1 : ∀ off s, w.cell? ⟨g1, off, none⟩ = some (.string s) → False) (h2 : ∀ off s, w.cell? ⟨g2, off, none⟩ = some (.string s) → False) (k : KeepK (fun i => i ≠ g1 ∧ i ≠ g2) w w') : GTab vs q w' A xs := by
  intro hn
  obtain ⟨b, off, hA, hlt, hc⟩ := h hn
  obtain ⟨s, hs0⟩ := h0 xs[0]
  have hs := hc 0 xs[0] (List.getElem?_eq_getElem hn) 0 _ hs0
  have hg1 : b ≠ g1 := by rintro rfl; exact h1 _ _ hs
  have hg2 : b ≠ g2 := by rintro rfl; exact h2 _ _ hs
  exact ⟨b, off, hA, Nat.lt_of_lt_of_le hlt k.size, fun j e he i v hv => (k.cell (p := ⟨b, off + j * q + i, none⟩) ⟨hg1, hg2⟩).trans (hc j e he i v hv)⟩
theorem left_at {l : List RRec} {i : Nat} {r : RRec} (h : l[i]? = some r) (hr : RRec.is 41 r = false) : (leftsR 41 l)[(leftsR 41 (l.take i)).length]? = some r := by
  obtain ⟨h1, h2⟩ := List.getElem?_eq_some_iff.1 h
  have e : l = l.take i ++ (r :: l.drop (i + 1)) := by
    conv => lhs; rw [← List.take_append_drop i l, List.drop_eq_getElem_cons h1, h2]
  have e2 : leftsR 41 l = leftsR 41 (l.take i) ++ (r :: leftsR 41 (l.drop (i + 1))) := by
    conv => lhs; rw [e]
    unfold leftsR
    rw [List.filter_append, List.filter_cons, if_pos (by simp [hr])]
  rw [e2, List.getElem?_append_right (Nat.le_refl _), Nat.sub_self]
  rfl
theorem put_at {e : List RRec} {th : Bool} {sz hi ve fl : Int} {s : ByteArray} {i : Nat} {r : RRec} (h : e[i]? = some r) (hr : RRec.is 41 r = false) : (putE e th sz hi ve fl s)[(leftsR 41 (e.take i)).length]? = some r := by
  have := left_at h hr
  cases th with
  | false => exact this
  | true =>
    show (leftsR 41 e ++ [_])[_]? = _
    rw [List.getElem?_append_left (List.getElem?_eq_some_iff.1 this).1]
    exact this
def DD (th : Bool) (sz hi ve fl : Int) (xs : List Opt) (s : ByteArray) (ok : Bool) : Prop :=
  (th = true → ok = true → s.data.toList = optsB xs ∧ s.size ≤ 4096) ∧ (th = false → ok = true → sz = 0 ∧ hi = 0 ∧ ve = 0 ∧ fl = 0 ∧ xs = [])
theorem data_DD (th : Bool) (sz hi ve fl : Int) (A : Option Addr) (xs : List Opt) (c : Nat) (w : World) (hT : OTab w A xs) (hl : xs.length ≤ 1000) (hsz : ∀ o ∈ xs, o.d.size ≤ 1000000) :
    ∀ W, Below w.heap.size w W → Calls Try.prog 57 #[ednsV th sz hi ve fl A xs.length c] W fun e w' => ∃ s ok, e = .returned (.tuple #[.string s, .bool ok]) ∧ DD th sz hi ve fl xs s ok ∧ Below W.heap.size W w' := by
  intro W hW
  cases th with
  | true =>
    refine (data_yes sz hi ve fl A xs c W (hT.below hW) hl hsz).mono ?_
    rintro e w' ⟨s, ok, rfl, h1, h2, hb⟩
    exact ⟨s, ok, rfl, ⟨fun _ h => h1 h, (fun h => by cases h)⟩, hb⟩
  | false =>
    refine (data_no sz hi ve fl A xs.length c W).mono ?_
    rintro e w' ⟨rfl, hb⟩
    refine ⟨_, _, rfl, ⟨(fun h => by cases h), fun _ h => ?_⟩, hb⟩
    simp only [Bool.and_eq_true, beq_iff_eq] at h
    exact ⟨h.1.1.1.1, h.1.1.1.2, h.1.1.2, h.1.2, List.eq_nil_of_length_eq_zero h.2⟩
theorem left_none (l : List RRec) : ∀ (j : Nat) (f : RRec), (leftsR 41 l)[j]? = some f → RRec.is 41 f = false := by
  intro j f h
  have := (List.mem_filter.1 (List.mem_of_getElem? h)).2
  simpa using this
/-- What Get gives of what was put in, in one form. -/
def GotSays (m : MRec) (th : Bool) (sz hi ve fl : Int) (xs : List Opt) (t' : Bool) (sz' hi' ve' fl' : Int) (A' : Option Addr) (n' : Nat) (code : Int) (w' : World) : Prop :=
  ((m.s.any (RRec.is 41) = true ∨ m.h.any (RRec.is 41) = true) ∧ code = 2) ∨ (m.s.any (RRec.is 41) = false ∧ m.h.any (RRec.is 41) = false ∧ code = 0 ∧ t' = th ∧ sz' = sz ∧ hi' = hi ∧ ve' = ve ∧ fl' = fl ∧ n' = xs.length ∧ OTab w' A' xs)
theorem get_both (m : MRec) (th : Bool) (sz hi ve fl : Int) (xs : List Opt) (s : ByteArray) (qA sA hA eA : Option Addr) (qc sc hc ec : Nat) (w : World) (hD : DD th sz hi ve fl xs s true)
    (hIn : MRec.In ⟨m.id, m.bi, qA, m.q, qc, sA, m.s, sc, hA, m.h, hc, eA, putE m.e th sz hi ve fl s, ec⟩ w) (hsm : m.Small) (hbd : (0 ≤ hi ∧ hi ≤ 255) ∧ (0 ≤ ve ∧ ve ≤ 255) ∧ 0 ≤ fl ∧ fl ≤ 65535)
    (hf : ∀ o ∈ xs, o.fits) (hl : xs.length ≤ 1000) (hec : (putE m.e th sz hi ve fl s).length ≤ ec ∧ ec ≤ maxLen) :
    Calls Try.prog 27 #[MRec.val ⟨m.id, m.bi, qA, m.q, qc, sA, m.s, sc, hA, m.h, hc, eA, putE m.e th sz hi ve fl s, ec⟩] w fun e w' =>
      ∃ t' sz' hi' ve' fl' A' n' m' code, e = .returned (.tuple #[.agg #[.bool t', .int .u16 sz', .int .u8 hi', .int .u8 ve', .int .u16 fl', .slice A' n' m'], .int .i64 code]) ∧ GotSays m th sz hi ve fl xs t' sz' hi' ve' fl' A' n' code w' ∧ Below w.heap.size w w' := by
  have hll : (leftsR 41 m.e).length ≤ 20 := Nat.le_trans (List.length_filter_le _ _) hsm.le
  have hpl : (putE m.e th sz hi ve fl s).length ≤ 21 := by
    cases th with
    | false => show (leftsR 41 m.e).length ≤ 21; omega
    | true => show (leftsR 41 m.e ++ [_]).length ≤ 21; rw [List.length_append]; simp; omega
  have hlen : m.s.length ≤ 4000 ∧ m.h.length ≤ 4000 ∧ (putE m.e th sz hi ve fl s).length ≤ 4010 ∧ (putE m.e th sz hi ve fl s).length ≤ ec ∧ ec ≤ maxLen := ⟨by have := hsm.ls; omega, by have := hsm.lh; omega, by omega, hec.1, hec.2⟩
  cases hs : m.s.any (RRec.is 41) with
  | true =>
    refine (get_early _ 2 w hIn hlen (.inl ⟨hs, rfl⟩)).mono ?_
    rintro e w' ⟨rfl, hb⟩
    exact ⟨false, 0, 0, 0, 0, none, 0, 0, 2, rfl, .inl ⟨.inl hs, rfl⟩, hb⟩
  | false =>
    cases hh : m.h.any (RRec.is 41) with
    | true =>
      refine (get_early _ 2 w hIn hlen (.inr (.inl ⟨hs, hh, rfl⟩))).mono ?_
      rintro e w' ⟨rfl, hb⟩
      exact ⟨false, 0, 0, 0, 0, none, 0, 0, 2, rfl, .inl ⟨.inr hh, rfl⟩, hb⟩
    | false =>
      cases th with
      | false =>
        obtain ⟨rfl, rfl, rfl, rfl, rfl⟩ := hD.2 rfl rfl
        refine (get_early _ 0 w hIn hlen (.inr (.inr (.inl ⟨hs, hh, idxP_miss fun j f _ hf => left_none m.e j f hf, rfl⟩)))).mono ?_
        rintro e w' ⟨rfl, hb⟩
        exact ⟨false, 0, 0, 0, 0, none, 0, 0, 0, rfl, .inr ⟨hs, hh, rfl, rfl, rfl, rfl, rfl, rfl, rfl, OTab.nil_ _ _⟩, hb⟩
      | true =>
        have hd := hD.1 rfl rfl
        refine (get_opt _ (leftsR 41 m.e).length ⟨⟨#[0]⟩, 41, sz, ttlE hi ve fl, s⟩ xs sz hi ve fl w hIn hlen ⟨hs, hh, ?_, ?_, ?_, rfl, rfl, rfl, hd.1, hf, ⟨by have := hd.2; show s.size ≤ 100000; omega, hl⟩, hbd⟩).mono ?_
        · show (leftsR 41 m.e ++ [_])[(leftsR 41 m.e).length]? = _
          rw [List.getElem?_append_right (Nat.le_refl _), Nat.sub_self]; rfl
        · refine idxP_hit (e := ⟨⟨#[0]⟩, 41, sz, ttlE hi ve fl, s⟩) ?_ rfl (fun j f hj hf => ?_)
          · show (leftsR 41 m.e ++ [_])[(leftsR 41 m.e).length]? = _
            rw [List.getElem?_append_right (Nat.le_refl _), Nat.sub_self]; rfl
          · have hf' : (leftsR 41 m.e ++ [_])[j]? = some f := hf
            rw [List.getElem?_append_left hj] at hf'
            exact left_none m.e j f hf'
        · show ((leftsR 41 m.e ++ [_]).drop ((leftsR 41 m.e).length + 1)).any _ = false
          rw [List.drop_eq_nil_of_le (by rw [List.length_append]; exact Nat.le_refl _)]; rfl
        · rintro e w' ⟨A', c', rfl, ho, hb, -, -⟩
          exact ⟨true, sz, hi, ve, fl, A', _, c', 0, rfl, .inr ⟨hs, hh, rfl, rfl, rfl, rfl, rfl, rfl, rfl, ho⟩, hb⟩
/-- What With gives, in one form. -/
def WithSays (xs : List Opt) (cl sv : ByteArray) (sz hi ve fl : Int) (t' : Bool) (sz' hi' ve' fl' : Int) (A' : Option Addr) (n' : Nat) (code : Int) (w' : World) : Prop :=
  (rightB cl sv = false ∧ code = 2) ∨ (rightB cl sv = true ∧ code = 0 ∧ t' = true ∧ sz' = sz ∧ hi' = hi ∧ ve' = ve ∧ fl' = fl ∧ n' = (withO xs cl sv).length ∧ OTab w' A' (withO xs cl sv))
theorem with_both (th : Bool) (sz hi ve fl : Int) (A : Option Addr) (xs : List Opt) (m : Nat) (c s : ByteArray) (hc : c.size ≤ maxLen) (hs : s.size ≤ maxLen) (w : World) (hT : OTab w A xs) (hn : xs.length ≤ 4000) :
    Calls Try.prog 24 #[.agg #[.bool th, .int .u16 sz, .int .u8 hi, .int .u8 ve, .int .u16 fl, .slice A xs.length m], .string c, .string s] w fun e w' =>
      ∃ t' sz' hi' ve' fl' A' n' m' code, e = .returned (.tuple #[.agg #[.bool t', .int .u16 sz', .int .u8 hi', .int .u8 ve', .int .u16 fl', .slice A' n' m'], .int .i64 code]) ∧ WithSays xs c s sz hi ve fl t' sz' hi' ve' fl' A' n' code w' ∧ Below w.heap.size w w' := by
  cases hr : rightB c s with
  | false =>
    refine (With_no th sz hi ve fl A xs m c s hc hs w hr).mono ?_
    rintro e w' ⟨rfl, hb⟩
    exact ⟨false, 0, 0, 0, 0, none, 0, 0, 2, rfl, .inl ⟨hr, rfl⟩, hb⟩
  | true =>
    refine (With_yes th sz hi ve fl A xs m c s hc hs w hT hn hr).mono ?_
    rintro e w' ⟨A', m', rfl, ho, hb⟩
    exact ⟨true, sz, hi, ve, fl, A', _, m', 0, rfl, .inr ⟨hr, rfl, rfl, rfl, rfl, rfl, rfl, rfl, ho⟩, hb⟩
theorem right_le {c s : ByteArray} (h : rightB c s = true) : (c ++ s).size ≤ 40 := by
  simp only [rightB, Bool.and_eq_true, beq_iff_eq, Bool.or_eq_true, decide_eq_true_eq] at h
  rw [ByteArray.size_append]
  omega
theorem withO_small {xs : List Opt} {c s : ByteArray} (h : SmallE xs) (hr : rightB c s = true) : (withO xs c s).length ≤ 61 ∧ ∀ o ∈ withO xs c s, o.d.size ≤ 16384 := by
  unfold withO
  have h1 : (lefts 10 xs).length ≤ xs.length := List.length_filter_le _ _
  refine ⟨by rw [List.length_append]; have := h.1; simp; omega, fun o ho => ?_⟩
  rcases List.mem_append.1 ho with ho | ho
  · exact h.2 o (List.mem_filter.1 ho).1
  · rw [List.mem_singleton.1 ho]
    have := right_le hr
    show (c ++ s).size ≤ 16384
    omega

set_option maxRecDepth 100000 in
set_option maxHeartbeats 16000000 in
theorem ednsBack_law (w : World) (m : MRec) (th : Bool) (sz hi ve fl : Int) (A : Option Addr) (xs : List Opt) (c : Nat) (client server : ByteArray) (hm : m.In w) (hok : m.Ok) (hT : OTab w A xs) (hc : xs.length ≤ c ∧ c ≤ maxLen)
    (hb1 : 0 ≤ hi ∧ hi ≤ 255) (hb2 : 0 ≤ ve ∧ ve ≤ 255) (hb3 : 0 ≤ fl ∧ fl ≤ 65535) (hcl : client.size ≤ maxLen) (hsv : server.size ≤ maxLen) :
    Calls Try.prog 5 #[m.val, .agg #[.bool th, .int .u16 sz, .int .u8 hi, .int .u8 ve, .int .u16 fl, .slice A xs.length c], .string client, .string server] w fun e w' => e = .returned (.bool true) ∧ Below w.heap.size w w' := by
  have HM := Lib.hid (And.intro hm (And.intro hok (And.intro hT (And.intro hc (And.intro (And.intro hb1 (And.intro hb2 hb3)) (And.intro hcl hsv))))))
  clear hm hok hT hc hb1 hb2 hb3 hcl hsv
  dsimp only [MRec.val]
  obtain ⟨SA, hSA⟩ : ∃ A, m.sA = A := ⟨_, rfl⟩
  obtain ⟨HA2, hHA⟩ : ∃ A, m.hA = A := ⟨_, rfl⟩
  obtain ⟨EA, hEA⟩ : ∃ A, m.eA = A := ⟨_, rfl⟩
  have HSA := Lib.hid (And.intro hSA (And.intro hHA hEA))
  have HTab := Lib.hid (show RTab w SA m.s ∧ RTab w HA2 m.h ∧ RTab w EA m.e from by rw [← hSA, ← hHA, ← hEA]; exact ⟨HM.out.1.ts, HM.out.1.th, HM.out.1.te⟩)
  rw [hSA, hHA, hEA]
  clear hSA hHA hEA
  go_enter Try.func5, Try.ntmps5
  obtain ⟨V, hV⟩ : ∃ V, (w.alloc (.cells #[.int .u16 m.id, .int .u16 m.bi, .slice m.qA m.q.length m.qc, .slice SA m.s.length m.sc, .slice HA2 m.h.length m.hc, .slice EA m.e.length m.ec] 26)).alloc (.cells #[.bool th, .int .u16 sz, .int .u8 hi, .int .u8 ve, .int .u16 fl, .slice A xs.length c] 45) = V := ⟨_, rfl⟩
  have HV := Lib.hid (show Below w.heap.size w V ∧ Blk V w.heap.size 26 #[.int .u16 m.id, .int .u16 m.bi, .slice m.qA m.q.length m.qc, .slice SA m.s.length m.sc, .slice HA2 m.h.length m.hc, .slice EA m.e.length m.ec] ∧ Blk V (w.heap.size + 1) 45 (ednsC th sz hi ve fl A xs.length c) from by
    rw [← hV]
    refine ⟨((Below.refl _ _).alloc (Nat.le_refl _) _).alloc (by simp) _, (Blk.new _ _ _).alloc _, ?_⟩
    have h1 := Blk.new (w.alloc (.cells #[.int .u16 m.id, .int .u16 m.bi, .slice m.qA m.q.length m.qc, .slice SA m.s.length m.sc, .slice HA2 m.h.length m.hc, .slice EA m.e.length m.ec] 26)) 45 #[.bool th, .int .u16 sz, .int .u8 hi, .int .u8 ve, .int .u16 fl, .slice A xs.length c]
    rw [World.size_alloc] at h1
    exact h1)
  go_wp2_with (fail)
  refine (lives07_any V).mono ?_
  rintro e w1 ⟨rfl, hb1⟩
  have m0 := (HV.out.2.1.belowS hb1).cell 0
  have m1 := (HV.out.2.1.belowS hb1).cell 1
  have m2 := (HV.out.2.1.belowS hb1).cell 2
  have m3 := (HV.out.2.1.belowS hb1).cell 3
  have m4 := (HV.out.2.1.belowS hb1).cell 4
  have m5 := (HV.out.2.1.belowS hb1).cell 5
  have HB1 := Lib.hid (belowT HV.out.1 hb1)
  have HS := Lib.hid (small6_any m w1 (HM.out.1.below HB1.out) HM.out.2.1)
  have HE1 := Lib.hid (HV.out.2.2.belowS hb1)
  have HM1 := Lib.hid (HV.out.2.1.belowS hb1)
  unfold MRec.val at HS
  rw [HSA.out.1, HSA.out.2.1, HSA.out.2.2] at HS
  clear hb1 hV
  go_wp2_with (fail)
  refine HS.out.mono ?_
  rintro e w2 ⟨hd, hb2⟩
  rcases hd with rfl | ⟨rfl, hsm⟩
  · have HF := Lib.hid (belowT HB1.out hb2)
    clear hb2 m0 m1 m2 m3 m4 m5
    go_wp2_with (fail)
    go_ret
    exact ⟨rfl, HF.out⟩
  have e0 := (HE1.out.belowS hb2).cell 0
  have e1 := (HE1.out.belowS hb2).cell 1
  have e2 := (HE1.out.belowS hb2).cell 2
  have e3 := (HE1.out.belowS hb2).cell 3
  have e4 := (HE1.out.belowS hb2).cell 4
  have e5 := (HE1.out.belowS hb2).cell 5
  unfold ednsC at e0 e1 e2 e3 e4 e5
  have HB2 := Lib.hid (belowT HB1.out hb2)
  have HSM := Lib.hid hsm
  have HE2 := Lib.hid (HE1.out.belowS hb2)
  have HM2 := Lib.hid (HM1.out.belowS hb2)
  have HS7 := Lib.hid (small07_any th sz hi ve fl A xs c w2 (HM.out.2.2.1.below HB2.out) HM.out.2.2.2.1)
  unfold ednsV at HS7
  clear hb2 hsm m0 m1 m2 m3 m4 m5 HM1 HE1 HB1
  go_wp2_with (fail)
  refine HS7.out.mono ?_
  rintro e w3 ⟨b, rfl, hsmall, hb3⟩
  have HB3 := Lib.hid (belowT HB2.out hb3)
  cases b with
  | false =>
    clear hb3 hsmall e0 e1 e2 e3 e4 e5
    go_wp2_with (fail)
    go_ret
    exact ⟨rfl, HB3.out⟩
  | true =>
    have HSE := Lib.hid (hsmall rfl)
    have HE3 := Lib.hid (HE2.out.belowS hb3)
    have HM3 := Lib.hid (HM2.out.belowS hb3)
    have e0 := HE3.out.cell 0
    have e1 := HE3.out.cell 1
    have e2 := HE3.out.cell 2
    have e3 := HE3.out.cell 3
    have e4 := HE3.out.cell 4
    have e5 := HE3.out.cell 5
    unfold ednsC at e0 e1 e2 e3 e4 e5
    have HT3 := Lib.hid (HM.out.2.2.1.below HB3.out)
    have hlE := HE3.out.lt
    clear hb3 hsmall HM2 HE2 HB2
    go_wp2_with (fail)
    refine (with_both th sz hi ve fl A xs c client server HM.out.2.2.2.2.2.1 HM.out.2.2.2.2.2.2 w3 HT3.out (by have := HSE.out.1; omega)).mono ?_
    rintro e w4 ⟨t', sz', hi', ve', fl', A', n', m', code, rfl, hsay, hb4⟩
    have HB4 := Lib.hid (belowT HB3.out hb4)
    have HE4 := Lib.hid (HE3.out.belowS hb4)
    have HM4 := Lib.hid (HM3.out.belowS hb4)
    have HT4 := Lib.hid (HT3.out.below hb4)
    have HWS := Lib.hid hsay
    clear hb4 hsay e0 e1 e2 e3 e4 e5 HE3 HM3 HT3
    go_upto_if 43 with (fail)
    obtain ⟨v4, hv4⟩ : ∃ v, w4.alloc (.cells #[.bool t', .int .u16 sz', .int .u8 hi', .int .u8 ve', .int .u16 fl', .slice A' n' m'] 45) = v := ⟨_, rfl⟩
    have hbv : Below w4.heap.size w4 v4 := by rw [← hv4]; exact below_allocE _ _
    have hF := Blk.new w4 45 #[.bool t', .int .u16 sz', .int .u8 hi', .int .u8 ve', .int .u16 fl', .slice A' n' m']
    try rw [hv4] at hF ⊢
    have HX := Lib.hid (And.intro (belowT HB4.out hbv) (And.intro (HE4.out.belowS hbv) (And.intro (HM4.out.belowS hbv) (And.intro (HT4.out.below hbv) (And.intro hF hbv)))))
    clear hv4 hbv hF HE4 HM4 HT4 HB4
    go_cut [] (fun wx => Aside (BackCut w sz hi ve fl m SA HA2 EA wx))
    case first =>
      rcases HWS.out with ⟨_, rfl⟩ | ⟨hr, rfl, rfl, rfl, rfl, rfl, rfl, rfl, ho⟩
      · go_wp2_with (fail)
        go_meet
        exact ⟨th, A, xs, c, HX.out.2.1, HX.out.2.2.1, ⟨HX.out.1, HX.out.2.2.2.1, by have := HSE.out.1; omega, HSE.out.2⟩⟩
      · have hx := HX.out
        have f0 := hx.2.2.2.2.1.cell 0
        have f1 := hx.2.2.2.2.1.cell 1
        have f2 := hx.2.2.2.2.1.cell 2
        have f3 := hx.2.2.2.2.1.cell 3
        have f4 := hx.2.2.2.2.1.cell 4
        have f5 := hx.2.2.2.2.1.cell 5
        have hck := Cookies_any true sz' hi' ve' fl' A' (withO xs client server) m' v4 (ho.below hx.2.2.2.2.2) (by have := (withO_small HSE.out hr).1; omega)
        rw [ckR_with _ _ _ hr] at hck
        have HCK := Lib.hid hck
        have HO := Lib.hid (And.intro hr (ho.below hx.2.2.2.2.2))
        clear hx hck ho hr
        go_wp2_with (fail)
        refine HCK.out.mono ?_
        rintro e w5 ⟨rfl, hb5⟩
        have hx := HX.out
        have f0' := (hx.2.2.2.2.1.belowS hb5).cell 0
        have f1' := (hx.2.2.2.2.1.belowS hb5).cell 1
        have f2' := (hx.2.2.2.2.1.belowS hb5).cell 2
        have f3' := (hx.2.2.2.2.1.belowS hb5).cell 3
        have f4' := (hx.2.2.2.2.1.belowS hb5).cell 4
        have f5' := (hx.2.2.2.2.1.belowS hb5).cell 5
        have hE5 := hx.2.1.belowS hb5
        have hE5' : Blk w5 (w.heap.size + 1) 45 #[.bool th, .int .u16 sz', .int .u8 hi', .int .u8 ve', .int .u16 fl', .slice A xs.length c] := hE5
        have e0 := hE5'.cell 0
        have e1 := hE5'.cell 1
        have e2 := hE5'.cell 2
        have e3 := hE5'.cell 3
        have e4 := hE5'.cell 4
        have e5 := hE5'.cell 5
        have p0 := hE5'.frozen 0
        have p1 := hE5'.frozen 1
        have p2 := hE5'.frozen 2
        have p3 := hE5'.frozen 3
        have p4 := hE5'.frozen 4
        have p5 := hE5'.frozen 5
        have HY := Lib.hid (And.intro hE5' (And.intro (hx.2.2.1.belowS hb5) (And.intro (belowT hx.1 hb5) (HO.out.2.below hb5))))
        clear hx hb5 hE5 hE5'
        go_wp2_with (fail)
        go_meet
        have hy := HY.out
        have k : KeepK (fun i => i ≠ w.heap.size + 1) w5 _ := keep_msg w5 (fun i hi => hi) (.bool true) (.int .u16 sz') (.int .u8 hi') (.int .u8 ve') (.int .u16 fl') (.slice A' (withO xs client server).length m')
        refine ⟨true, A', withO xs client server, m', hy.1.edns _ _ _ _ _ _, hy.2.1.keepK k (by omega), ⟨?_, otab_far hy.2.2.2 hy.1 k, (withO_small HSE.out HO.out.1).1, (withO_small HSE.out HO.out.1).2⟩⟩
        exact ((KeepK.of_below (K := fun i => i < w.heap.size) hy.2.2.1 fun i hi => hi).trans (keep_msg _ (fun i hi => by omega) _ _ _ _ _ _)).below fun i hi => hi
    case rest =>
      obtain ⟨th2, A2, xs2, c2, hE, hM, hP⟩ := hcut.out
      have hE' : Blk wc (w.heap.size + 1) 45 #[.bool th2, .int .u16 sz, .int .u8 hi, .int .u8 ve, .int .u16 fl, .slice A2 xs2.length c2] := hE
      have e0 := hE'.cell 0
      have e1 := hE'.cell 1
      have e2 := hE'.cell 2
      have e3 := hE'.cell 3
      have e4 := hE'.cell 4
      have e5 := hE'.cell 5
      have m0 := hM.cell 0
      have m1 := hM.cell 1
      have m2 := hM.cell 2
      have m3 := hM.cell 3
      have m4 := hM.cell 4
      have m5 := hM.cell 5
      have hsm := HSM.out
      have HPut := Lib.hid (put_any m th2 sz hi ve fl A2 xs2.length c2 (DD th2 sz hi ve fl xs2) wc (HM.out.1.below hP.b) ⟨by have := hsm.lq; omega, by have := hsm.ls; omega, by have := hsm.lh; omega, by have := hsm.le; omega⟩ HM.out.2.2.2.2.1
        (data_DD th2 sz hi ve fl A2 xs2 c2 wc hP.o (by have := hP.l; omega) (fun o ho => by have := hP.s o ho; omega)))
      unfold ednsV MRec.val at HPut
      rw [HSA.out.1, HSA.out.2.1, HSA.out.2.2] at HPut
      have HC := Lib.hid (And.intro hE' (And.intro hM hP))
      clear hE hE' hM hP hcut hsm HX HWS
      go_wp2_with (fail)
      refine HPut.out.mono ?_
      rintro e w6 (⟨s, _, rfl, hb6⟩ | ⟨s, qA, qc, sA, sc, hA, hc, eA, ec, hD, rfl, hIn, hb6, hS6, _⟩)
      · have HF := Lib.hid (belowT HC.out.2.2.b hb6)
        clear hb6 e0 e1 e2 e3 e4 e5 m0 m1 m2 m3 m4 m5
        unfold zeroMsg
        go_wp2_with (fail)
        go_ret
        exact ⟨rfl, HF.out.alloc HF.out.size _⟩
      · obtain ⟨L, hL⟩ : ∃ L, putE m.e th2 sz hi ve fl s = L := ⟨_, rfl⟩
        have hec : L.length ≤ ec ∧ ec ≤ maxLen := by
          rw [hL] at hS6
          obtain ⟨_, _, hv, h1, h2⟩ := hS6.shape
          injection hv with _ _ hv
          subst hv
          exact ⟨h1, h2⟩
        have HGB := Lib.hid (fun W (hW : Below w6.heap.size w6 W) => get_both m th2 sz hi ve fl xs2 s qA sA hA eA qc sc hc ec W hD (hIn.below hW) HSM.out HM.out.2.2.2.2.1 (fun o ho => ⟨(HC.out.2.2.o.1 o ho).1, by have := HC.out.2.2.s o ho; omega⟩) (by have := HC.out.2.2.l; omega) (by rw [hL]; exact hec))
        rw [hL] at hIn HGB ⊢
        have HD := Lib.hid (And.intro hD (And.intro hL (And.intro hec hIn)))
        dsimp only [MRec.val] at HGB ⊢
        have hE6 := HC.out.1.belowS hb6
        have hM6 := HC.out.2.1.belowS hb6
        have HC6 := Lib.hid (And.intro hE6 (And.intro hM6 (HC.out.2.2.below hb6)))
        obtain ⟨v6, hv6⟩ : ∃ v, w6.alloc (.cells #[.int .u16 m.id, .int .u16 m.bi, .slice qA m.q.length qc, .slice sA m.s.length sc, .slice hA m.h.length hc, .slice eA L.length ec] 26) = v := ⟨_, rfl⟩
        have hX6 : Blk v6 w6.heap.size 26 #[.int .u16 m.id, .int .u16 m.bi, .slice qA m.q.length qc, .slice sA m.s.length sc, .slice hA m.h.length hc, .slice eA L.length ec] := by rw [← hv6]; exact Blk.new _ _ _
        have hbv : Below w6.heap.size w6 v6 := by rw [← hv6]; exact below_allocE _ _
        have y0 := hX6.cell 0
        have y1 := hX6.cell 1
        have y2 := hX6.cell 2
        have y3 := hX6.cell 3
        have y4 := hX6.cell 4
        have y5 := hX6.cell 5
        have HX6 := Lib.hid (And.intro hX6 hbv)
        clear hD hL hec hIn hS6 hb6 hE6 hM6 hX6 hbv HC e0 e1 e2 e3 e4 e5 m0 m1 m2 m3 m4 m5 HPut
        go_wp2_with (fail)
        refine (HGB.out v6 HX6.out.2).mono ?_
        rintro e w7 ⟨t2, sz2, hi2, ve2, fl2, A7, n7, m7, code2, rfl, hgs, hb7⟩
        obtain ⟨v7, hv7⟩ : ∃ v, w7.alloc (.cells #[.bool t2, .int .u16 sz2, .int .u8 hi2, .int .u8 ve2, .int .u16 fl2, .slice A7 n7 m7] 45) = v := ⟨_, rfl⟩
        have hG7 : Blk v7 w7.heap.size 45 #[.bool t2, .int .u16 sz2, .int .u8 hi2, .int .u8 ve2, .int .u16 fl2, .slice A7 n7 m7] := by rw [← hv7]; exact Blk.new _ _ _
        have hbv7 : Below w7.heap.size w7 v7 := by rw [← hv7]; exact below_allocE _ _
        have h67 : Below w6.heap.size w6 v7 := belowT (belowT HX6.out.2 hb7) hbv7
        have m3 := (HC6.out.2.1.belowS h67).cell 3
        have m4 := (HC6.out.2.1.belowS h67).cell 4
        have HG7 := Lib.hid (And.intro hG7 (And.intro h67 (And.intro hgs (And.intro hbv7 (belowT hb7 hbv7)))))
        have hw7 : w6.heap.size < w7.heap.size := by have := HX6.out.1.lt; have := hb7.size; omega
        clear hG7 hbv7 h67 hgs hb7 y0 y1 y2 y3 y4 y5
        go_wp2_with (fail)
        obtain ⟨V7, hV7⟩ : ∃ V, v7.alloc (.cells #[.slice SA m.s.length m.sc, .slice HA2 m.h.length m.hc] 24) = V := ⟨_, rfl⟩
        have hL7 : Blk V7 v7.heap.size 24 #[.slice SA m.s.length m.sc, .slice HA2 m.h.length m.hc] := by rw [← hV7]; exact Blk.new _ _ _
        have hbV : Below v7.heap.size v7 V7 := by rw [← hV7]; exact below_allocE _ _
        rw [hV7]
        have h6V : Below w6.heap.size w6 V7 := belowT HG7.out.2.1 hbV
        have HX7 := Lib.hid (And.intro h6V (And.intro hL7 (And.intro (belowT HC6.out.2.2.b h6V) (And.intro (HG7.out.1.belowS hbV) (And.intro (belowT HG7.out.2.2.2.2 hbV) hbV)))))
        have HGS := Lib.hid HG7.out.2.2.1
        clear hV7 hL7 hbV h6V m3 m4
        go_loopg [91] 3 (fun gg v91 wr => ∃ i : Nat, v91 = .int .i64 (i : Int) ∧ i ≤ 2 ∧ Aside (gg + i = 3) ∧ Aside (0 < i → m.s.any (RRec.is 41) = false) ∧ Aside (1 < i → m.h.any (RRec.is 41) = false) ∧ Aside (Below V7.heap.size V7 wr))
        case atStart => exact ⟨0, rfl, by omega, rfl, (show 0 < 0 → m.s.any (RRec.is 41) = false from fun h => absurd h (by omega)), (show 1 < 0 → m.h.any (RRec.is 41) = false from fun h => absurd h (by omega)), Below.refl _ _⟩
        case round =>
          obtain ⟨i, rfl, hi2', hgo, hsn, hhn, hB⟩ := hrel
          rcases (show i = 0 ∨ i = 1 ∨ i = 2 by omega) with rfl | rfl | rfl
          · have hli : (m.s.length : Int) ≤ 20 := by have := HSM.out.ls; omega
            have b0 := (HX7.out.2.1.belowS hB.out).cell 0
            go_wp2_with (fail)
            go_loopg [97] (m.s.length + 1) (fun g2 v97 wi => ∃ j : Nat, v97 = .int .i64 (j : Int) ∧ j ≤ m.s.length ∧ g2 + j = m.s.length + 1 ∧ Aside (∀ r ∈ m.s.take j, RRec.is 41 r = false) ∧ Aside (Below V7.heap.size V7 wi))
            case atStart => exact ⟨0, rfl, Nat.zero_le _, by omega, (show ∀ r ∈ m.s.take 0, RRec.is 41 r = false from fun r hr => by simp at hr), hB.out⟩
            case round =>
              obtain ⟨j, rfl, hj, hgj, hno, hBi⟩ := hrel
              by_cases hlt : j < m.s.length
              · have hltI : (j : Int) < (m.s.length : Int) := by omega
                obtain ⟨r, hr⟩ : ∃ r, m.s[j]? = some r := ⟨_, List.getElem?_eq_getElem hlt⟩
                obtain ⟨b, off, rfl, hbl, d0, d1, d2, d3, d4⟩ := (HTab.out.1.below (HX7.out.2.2.1.trans (hBi.out.mono HX7.out.2.2.1.size))).cells hr
                have HR := Lib.hid hr
                clear hr hlt
                by_cases hq : r.t = 41
                · have hcode : code2 = 2 := by
                    rcases HGS.out with ⟨_, h⟩ | ⟨h1, h2, _⟩
                    · exact h
                    · have h3 : m.s.any (RRec.is 41) = true := List.any_eq_true.2 ⟨r, List.mem_of_getElem? HR.out, by unfold RRec.is; rw [hq]; rfl⟩
                      rw [h3] at h1; cases h1
                  subst hcode
                  go_wp2_with (fail)
                  go_ret
                  exact ⟨rfl, (HX7.out.2.2.1.trans (hBi.out.mono HX7.out.2.2.1.size)).alloc (by have := HX7.out.2.2.1.size; have := hBi.out.size; omega) _⟩
                · have HQ := Lib.hid (show RRec.is 41 r = false by unfold RRec.is; simpa using hq)
                  go_wp2_with (fail)
                  go_roundg (m.s.length + 1 - (j + 1))
                  case measure => have := hltI; omega
                  case rel =>
                    refine ⟨j + 1, by go_num, by have := hltI; omega, by have := hltI; omega, (show ∀ x ∈ m.s.take (j + 1), RRec.is 41 x = false from fun x hx => ?_), hBi.out.trans (((Below.refl _ _).alloc (Nat.le_refl _) _).mono hBi.out.size)⟩
                    obtain ⟨h1, h2⟩ := List.getElem?_eq_some_iff.1 HR.out
                    rw [List.take_succ_eq_append_getElem h1, h2] at hx
                    rcases List.mem_append.1 hx with hx | hx
                    · exact hno.out x hx
                    · rw [List.mem_singleton.1 hx]; exact HQ.out
              · obtain rfl : j = m.s.length := by omega
                rw [List.take_length] at hno
                have HN := Lib.hid (show m.s.any (RRec.is 41) = false from Bool.eq_false_iff.2 fun h => by obtain ⟨x, hx, hp⟩ := List.any_eq_true.1 h; rw [hno.out x hx] at hp; cases hp)
                clear hlt
                go_wp2_with (fail)
                go_roundg 2
                case measure => have := hgo.out; omega
                case rel => exact ⟨1, by go_num, by omega, (show 2 + 1 = 3 from rfl), (fun _ => HN.out), (show 1 < 1 → m.h.any (RRec.is 41) = false from fun h => absurd h (by omega)), hBi.out⟩
          · have hli : (m.h.length : Int) ≤ 20 := by have := HSM.out.lh; omega
            have b0 := (HX7.out.2.1.belowS hB.out).cell 1
            go_wp2_with (fail)
            go_loopg [97] (m.h.length + 1) (fun g2 v97 wi => ∃ j : Nat, v97 = .int .i64 (j : Int) ∧ j ≤ m.h.length ∧ g2 + j = m.h.length + 1 ∧ Aside (∀ r ∈ m.h.take j, RRec.is 41 r = false) ∧ Aside (Below V7.heap.size V7 wi))
            case atStart => exact ⟨0, rfl, Nat.zero_le _, by omega, (show ∀ r ∈ m.h.take 0, RRec.is 41 r = false from fun r hr => by simp at hr), hB.out⟩
            case round =>
              obtain ⟨j, rfl, hj, hgj, hno, hBi⟩ := hrel
              by_cases hlt : j < m.h.length
              · have hltI : (j : Int) < (m.h.length : Int) := by omega
                obtain ⟨r, hr⟩ : ∃ r, m.h[j]? = some r := ⟨_, List.getElem?_eq_getElem hlt⟩
                obtain ⟨b, off, rfl, hbl, d0, d1, d2, d3, d4⟩ := (HTab.out.2.1.below (HX7.out.2.2.1.trans (hBi.out.mono HX7.out.2.2.1.size))).cells hr
                have HR := Lib.hid hr
                clear hr hlt
                by_cases hq : r.t = 41
                · have hcode : code2 = 2 := by
                    rcases HGS.out with ⟨_, h⟩ | ⟨h1, h2, _⟩
                    · exact h
                    · have h3 : m.h.any (RRec.is 41) = true := List.any_eq_true.2 ⟨r, List.mem_of_getElem? HR.out, by unfold RRec.is; rw [hq]; rfl⟩
                      rw [h3] at h2; cases h2
                  subst hcode
                  go_wp2_with (fail)
                  go_ret
                  exact ⟨rfl, (HX7.out.2.2.1.trans (hBi.out.mono HX7.out.2.2.1.size)).alloc (by have := HX7.out.2.2.1.size; have := hBi.out.size; omega) _⟩
                · have HQ := Lib.hid (show RRec.is 41 r = false by unfold RRec.is; simpa using hq)
                  go_wp2_with (fail)
                  go_roundg (m.h.length + 1 - (j + 1))
                  case measure => have := hltI; omega
                  case rel =>
                    refine ⟨j + 1, by go_num, by have := hltI; omega, by have := hltI; omega, (show ∀ x ∈ m.h.take (j + 1), RRec.is 41 x = false from fun x hx => ?_), hBi.out.trans (((Below.refl _ _).alloc (Nat.le_refl _) _).mono hBi.out.size)⟩
                    obtain ⟨h1, h2⟩ := List.getElem?_eq_some_iff.1 HR.out
                    rw [List.take_succ_eq_append_getElem h1, h2] at hx
                    rcases List.mem_append.1 hx with hx | hx
                    · exact hno.out x hx
                    · rw [List.mem_singleton.1 hx]; exact HQ.out
              · obtain rfl : j = m.h.length := by omega
                rw [List.take_length] at hno
                have HN := Lib.hid (show m.h.any (RRec.is 41) = false from Bool.eq_false_iff.2 fun h => by obtain ⟨x, hx, hp⟩ := List.any_eq_true.1 h; rw [hno.out x hx] at hp; cases hp)
                clear hlt
                go_wp2_with (fail)
                go_roundg 1
                case measure => have := hgo.out; omega
                case rel => exact ⟨2, by go_num, by omega, (show 1 + 2 = 3 from rfl), (show 0 < 2 → m.s.any (RRec.is 41) = false from fun _ => hsn.out (by omega)), (fun _ => HN.out), hBi.out⟩
          · clear hi2'
            obtain ⟨hs0, hh0⟩ : m.s.any (RRec.is 41) = false ∧ m.h.any (RRec.is 41) = false := ⟨hsn.out (by omega), hhn.out (by omega)⟩
            rcases HGS.out with ⟨h | h, _⟩ | ⟨_, _, rfl, rfl, rfl, rfl, rfl, rfl, rfl, hO7⟩
            · rw [hs0] at h; cases h
            · rw [hh0] at h; cases h
            have HO7 := Lib.hid hO7
            have m5 := (HC6.out.2.1.belowS (belowT HX7.out.1 hB.out)).cell 5
            have hle : (m.e.length : Int) ≤ 20 := by have := HSM.out.le; omega
            have HB0 := Lib.hid hB.out
            have hO7V := Lib.hid (show OTab V7 A7 xs2 from hO7.below (belowT HG7.out.2.2.2.1 HX7.out.2.2.2.2.2))
            clear hO7 hs0 hh0 HGS
            go_wp2_with (fail)
            go_loopg [22, 111] (m.e.length + 1) (fun gg v22 v111 wi => ∃ i n : Nat, v22 = .int .i64 (n : Int) ∧ v111 = .int .i64 (i : Int) ∧ i ≤ m.e.length ∧ n ≤ i ∧ gg + i = m.e.length + 1 ∧ Aside (n = (leftsR 41 (m.e.take i)).length) ∧ Aside (Below V7.heap.size V7 wi))
            case atStart => exact ⟨0, 0, rfl, rfl, Nat.zero_le _, Nat.le_refl _, by omega, rfl, HB0.out⟩
            case round =>
              obtain ⟨i, n, rfl, rfl, hi3, hni, hg3, hn3, hBi⟩ := hrel
              by_cases hlt : i < m.e.length
              · have hltI : (i : Int) < (m.e.length : Int) := by omega
                obtain ⟨r, hr⟩ : ∃ r, m.e[i]? = some r := ⟨_, List.getElem?_eq_getElem hlt⟩
                obtain ⟨b, off, rfl, hbl, d0, d1, d2, d3, d4⟩ := (HTab.out.2.2.below (HX7.out.2.2.1.trans (hBi.out.mono HX7.out.2.2.1.size))).cells hr
                have HR := Lib.hid hr
                have hnI : (n : Int) ≤ 20 := by omega
                clear hr hlt
                by_cases hq : r.t = 41
                · have HQ := Lib.hid (show RRec.is 41 r = true by unfold RRec.is; rw [hq]; rfl)
                  go_wp2_with (fail)
                  go_roundg (m.e.length + 1 - (i + 1))
                  case measure => have := hltI; omega
                  case rel =>
                    refine ⟨i + 1, n, rfl, by go_num, by have := hltI; omega, by omega, by have := hltI; omega, ?_, hBi.out.trans (((Below.refl _ _).alloc (Nat.le_refl _) _).mono hBi.out.size)⟩
                    show n = _
                    obtain ⟨h1, h2⟩ := List.getElem?_eq_some_iff.1 HR.out
                    rw [leftsR_snoc 41 m.e h1, h2, if_pos HQ.out]
                    exact hn3.out
                · have hq2 : RRec.is 41 r = false := by unfold RRec.is; simpa using hq
                  have hLn := put_at (th := t2) (sz := sz2) (hi := hi2) (ve := ve2) (fl := fl2) (s := s) HR.out hq2
                  rw [HD.out.2.1, ← hn3.out] at hLn
                  have hnL : n < L.length := (List.getElem?_eq_some_iff.1 hLn).1
                  have hnLI : (n : Int) < (L.length : Int) := by omega
                  have hnL2 : ¬ L.length ≤ n := by omega
                  have hnL3 : ¬ (L.length : Int) ≤ (n : Int) := by omega
                  have hLb : (L.length : Int) ≤ 9223372036854775807 := by have := HD.out.2.2.1; unfold maxLen at this; omega
                  have HQ := Lib.hid (And.intro hq2 hLn)
                  have hne := neq_rr r
                  clear hLn hq2 hnL
                  go_wp2_with (fail)
                  have hRb := Blk.new wr 30 #[.string r.n, .int .u16 r.t, .int .u16 r.c, .int .u32 r.l, .string r.d]
                  have hbn := below_allocE wr (.cells #[.string r.n, .int .u16 r.t, .int .u16 r.c, .int .u32 r.l, .string r.d] 30)
                  generalize wr.alloc (.cells #[.string r.n, .int .u16 r.t, .int .u16 r.c, .int .u32 r.l, .string r.d] 30) = W9 at hRb hbn ⊢
                  have hB9 := belowT hBi.out hbn
                  obtain ⟨b', off', rfl, hbl', f0, f1, f2, f3, f4⟩ := (HD.out.2.2.2.te.below (belowT HX7.out.1 hB9)).cells HQ.out.2
                  have x5 := (HX6.out.1.belowS (belowT HX7.out.2.2.2.2.1 hB9)).cell 5
                  have hxl := (HX6.out.1.belowS (belowT HX7.out.2.2.2.2.1 hB9)).lt
                  have g0 := hRb.cell 0
                  have g1 := hRb.cell 1
                  have g2 := hRb.cell 2
                  have g3 := hRb.cell 3
                  have g4 := hRb.cell 4
                  have HB9 := Lib.hid hB9
                  clear hRb hbn hB9 d0 d1 d2 d3 d4
                  go_quiet (fail)
                  go_wp2_with (fail)
                  go_roundg (m.e.length + 1 - (i + 1))
                  case measure => have := hltI; omega
                  case rel =>
                    refine ⟨i + 1, n + 1, by go_num, by go_num, by have := hltI; omega, by omega, by have := hltI; omega, ?_, below_drewN HB9.out _⟩
                    show n + 1 = _
                    obtain ⟨h1, h2⟩ := List.getElem?_eq_some_iff.1 HR.out
                    rw [leftsR_snoc 41 m.e h1, h2, if_neg (by rw [HQ.out.1]; simp), List.length_append, ← hn3.out]
                    rfl
              · have hltI : ¬ (i : Int) < (m.e.length : Int) := by omega
                have hXb := HX6.out.1.belowS (belowT HX7.out.2.2.2.2.1 hBi.out)
                have hMb := HC6.out.2.1.belowS (belowT HX7.out.1 hBi.out)
                have hGb := HX7.out.2.2.2.1.belowS hBi.out
                have hEb := HC6.out.1.belowS (belowT HX7.out.1 hBi.out)
                have x0 := hXb.cell 0
                have x1 := hXb.cell 1
                have x2 := hXb.cell 2
                have x3 := hXb.cell 3
                have x4 := hXb.cell 4
                have x5 := hXb.cell 5
                have xf := hXb.frozen 5
                have y0 := hMb.cell 0
                have y1 := hMb.cell 1
                have y2 := hMb.cell 2
                have y3 := hMb.cell 3
                have y4 := hMb.cell 4
                have y5 := hMb.cell 5
                have yf := hMb.frozen 5
                have z0 := hGb.cell 0
                have z1 := hGb.cell 1
                have z2 := hGb.cell 2
                have z3 := hGb.cell 3
                have z4 := hGb.cell 4
                have z5 := hGb.cell 5
                have e0 := hEb.cell 0
                have e1 := hEb.cell 1
                have e2 := hEb.cell 2
                have e3 := hEb.cell 3
                have e4 := hEb.cell 4
                have e5 := hEb.cell 5
                have hw6 : w.heap.size + 1 < w6.heap.size := HC6.out.1.lt
                have k : KeepK (fun i => i ≠ w6.heap.size ∧ i ≠ w.heap.size) wr ((wr.setCell ⟨w6.heap.size, 5, none⟩ (.slice none 0 0)).setCell ⟨w.heap.size, 5, none⟩ (.slice none 0 0)) := ((KeepK.refl _ wr).setCell (p := ⟨w6.heap.size, 5, none⟩) (fun i hi => hi.1) _).setCell (p := ⟨w.heap.size, 5, none⟩) (fun i hi => hi.2) _
                have n1 := fun off s h => msg_noStr hXb off s h
                have n2 := fun off s h => msg_noStr hMb off s h
                have hOA := otab_farM (hO7V.out.below hBi.out) n1 n2 k
                have hOB := otab_farM (HC6.out.2.2.o.below (belowT HX7.out.1 hBi.out)) n1 n2 k
                have hX2 : Blk ((wr.setCell ⟨w6.heap.size, 5, none⟩ (.slice none 0 0)).setCell ⟨w.heap.size, 5, none⟩ (.slice none 0 0)) w6.heap.size 26 #[.int .u16 m.id, .int .u16 m.bi, .slice qA m.q.length qc, .slice sA m.s.length sc, .slice hA m.h.length hc, .slice none 0 0] := by
                  have h := (hXb.set_ 5 (.slice none 0 0)).far (p := ⟨w.heap.size, 5, none⟩) (by show w6.heap.size ≠ w.heap.size; omega) (.slice none 0 0)
                  simpa using h
                have hM2 : Blk ((wr.setCell ⟨w6.heap.size, 5, none⟩ (.slice none 0 0)).setCell ⟨w.heap.size, 5, none⟩ (.slice none 0 0)) w.heap.size 26 #[.int .u16 m.id, .int .u16 m.bi, .slice m.qA m.q.length m.qc, .slice SA m.s.length m.sc, .slice HA2 m.h.length m.hc, .slice none 0 0] := by
                  have h := (hMb.far (p := ⟨w6.heap.size, 5, none⟩) (by show w.heap.size ≠ w6.heap.size; omega) (.slice none 0 0)).set_ 5 (.slice none 0 0)
                  simpa using h
                have hin := HD.out.2.2.2.below (belowT HX7.out.1 hBi.out)
                have hbr : Below w.heap.size w wr := HX7.out.2.2.1.trans (hBi.out.mono HX7.out.2.2.1.size)
                have hq0 : ∀ e : QRec, ∃ s, (QRec.vs e)[0]? = some (.string s) := fun e => ⟨_, rfl⟩
                have hr0 : ∀ e : RRec, ∃ s, (RRec.vs e)[0]? = some (.string s) := fun e => ⟨_, rfl⟩
                have T1 := gtab_farM hin.tq hq0 n1 n2 k
                have T2 := gtab_farM hin.ts hr0 n1 n2 k
                have T3 := gtab_farM hin.th hr0 n1 n2 k
                have T4 := gtab_farM (HM.out.1.tq.below hbr) hq0 n1 n2 k
                have T5 := gtab_farM (HTab.out.1.below hbr) hr0 n1 n2 k
                have T6 := gtab_farM (HTab.out.2.1.below hbr) hr0 n1 n2 k
                have HF := Lib.hid (And.intro hX2 (And.intro hM2 (And.intro (((KeepK.of_below (K := fun i => i < w.heap.size) hbr fun i hi => hi).trans (k.mono fun i hi => ⟨by omega, by omega⟩)).below fun i hi => hi) (And.intro (And.intro T1 (And.intro T2 T3)) (And.intro T4 (And.intro T5 T6))))))
                have HSame := Lib.hid (same_yes t2 sz2 hi2 ve2 fl2 xs2 A7 A2 m7 c2 _ hOA hOB (by have := HC6.out.2.2.l; omega))
                unfold ednsV at HSame
                have hlx := hXb.lt
                have hlm := hMb.lt
                clear hXb hMb hGb hEb hOA hOB n1 n2 k hX2 hM2 hin hbr T1 T2 T3 T4 T5 T6 hq0 hr0
                go_wp2_with (fail)
                refine HSame.out.mono ?_
                rintro e w11 ⟨rfl, hb11⟩
                have hX3 := HF.out.1.belowS hb11
                have hM3 := HF.out.2.1.belowS hb11
                clear x0 x1 x2 x3 x4 x5 y0 y1 y2 y3 y4 y5 z0 z1 z2 z3 z4 z5 e0 e1 e2 e3 e4 e5 xf yf
                have x0 := hX3.cell 0
                have x1 := hX3.cell 1
                have x2 := hX3.cell 2
                have x3 := hX3.cell 3
                have x4 := hX3.cell 4
                have x5 := hX3.cell 5
                have y0 := hM3.cell 0
                have y1 := hM3.cell 1
                have y2 := hM3.cell 2
                have y3 := hM3.cell 3
                have y4 := hM3.cell 4
                have y5 := hM3.cell 5
                have hsm := HSM.out
                have HS6 := Lib.hid (same6_any ⟨m.id, m.bi, qA, m.q, qc, sA, m.s, sc, hA, m.h, hc, none, [], 0⟩ ⟨m.id, m.bi, m.qA, m.q, m.qc, SA, m.s, m.sc, HA2, m.h, m.hc, none, [], 0⟩ rfl rfl rfl rfl rfl rfl w11
                  ⟨HF.out.2.2.2.1.1.below hb11, HF.out.2.2.2.1.2.1.below hb11, HF.out.2.2.2.1.2.2.below hb11, RTab.nil_⟩ ⟨HF.out.2.2.2.2.1.below hb11, HF.out.2.2.2.2.2.1.below hb11, HF.out.2.2.2.2.2.2.below hb11, RTab.nil_⟩
                  ⟨(by have := hsm.lq; show m.q.length ≤ 1000000; omega), (by have := hsm.ls; show m.s.length ≤ 1000000; omega), (by have := hsm.lh; show m.h.length ≤ 1000000; omega), Nat.zero_le _⟩)
                dsimp only [MRec.val] at HS6
                have HB11 := Lib.hid (HF.out.2.2.1.trans (hb11.mono HF.out.2.2.1.size))
                clear hX3 hM3 hb11 hsm
                go_wp2_with (fail)
                refine HS6.out.mono ?_
                rintro e w12 ⟨rfl, hb12⟩
                have H12 := Lib.hid (belowT HB11.out hb12)
                clear hb12
                go_wp2_with (fail)
                go_ret
                exact ⟨rfl, H12.out⟩
end Go.Proofs.Ythjkdpphbipgfaa
