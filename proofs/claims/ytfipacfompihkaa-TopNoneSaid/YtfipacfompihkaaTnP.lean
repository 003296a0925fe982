/- What TopNone's steps come to: plain. Conditions: none. -/
import Derived.Test.YtfipacfompihkaaTnM
import Derived.Test.YtfipacfompihkaaCaNo
import Derived.Test.YtfipacfompihkaaAbs
import Derived.Test.YtfipacfompihkaaClosest
namespace Go.Proofs.Ytfipacfompihkaa
open Go.RowKit Go.Lib

theorem ttl_shape (o : Option RRec) : ∃ tt cc : Int, ttlV o = .tuple #[.int .u32 tt, .int .i64 cc] ∧ ∀ r, o = some r → okD 6 r.d.data.toList = true → 0 ≤ r.l → cc = 0 ∧ 0 ≤ tt ∧ tt ≤ 10800 := by
  cases o with
  | none => exact ⟨0, 3, rfl, fun r h => nomatch h⟩
  | some r =>
    cases hok : okD 6 r.d.data.toList with
    | false => exact ⟨0, 3, ttl_no hok, fun r' h h2 => by injection h with h; subst h; rw [hok] at h2; cases h2⟩
    | true =>
      refine ⟨_, 0, ttl_yes hok, fun r' h h2 hl => ?_⟩
      injection h with h
      subst h
      have : 0 ≤ (leastN r.d.data.toList).1 := by unfold leastN; rw [if_pos hok]; exact Int.natCast_nonneg _
      exact ⟨rfl, by omega, by omega⟩
/-- What a SOA that was found says. -/
theorem soa_says {m : MRec} {qn z : ByteArray} {r : RRec} (h : soaOf m qn z = some r) : r ∈ m.h ∧ okD 6 r.d.data.toList = true ∧ withinB qn.data.toList z.data.toList = true ∧ isName qn.data.toList = true := by
  have h1 := List.find?_some h
  have h2 := List.mem_of_find?_eq_some h
  unfold headB at h1
  simp only [Bool.and_eq_true, decide_eq_true_eq] at h1
  obtain ⟨h6, hz, hq, hr⟩ := h1
  unfold rightB chkR at hr
  simp only [Bool.and_eq_true, decide_eq_true_eq] at hr
  have hd := hr.2.2.1
  rw [h6] at hd
  exact ⟨h2, hd, within_trans hq hz, ((within_iff _ _).1 hq).1⟩
def putB (tt qt : Int) (b1 : Bool) : Bool := decide (0 < tt) && (b1 || !decide (qt = 0))
theorem noneN {w : World} {g mb : Nat} {L : Nat → Prop} {held : Bool} {n qn : ByteArray} {qt tt now : Int} {b1 : Bool} {V : Bs → Int → Option En} {e : Ending} {w' : World} (hV : NsV held n now V) (hnow : 0 ≤ now ∧ now ≤ 1099511627776) (htt : 0 ≤ tt ∧ tt ≤ 10800)
    (h : NoneP w g mb 9 1 L V qn qt tt now b1 e w') :
    e = .returned (.bool (putB tt qt b1)) ∧ ∃ L' V', CaV w' g mb 9 2 L' V' ∧ AfterV held (putB tt qt b1) n qn (if b1 = true then 0 else qt) tt now b1 V' ∧ (∀ i, L' i → L i ∨ w.heap.size ≤ i) ∧ KeepK (fun i => i < w.heap.size ∧ ¬ L i ∧ i ≠ mb) w w' := by
  rcases h with ⟨⟨h0, hb⟩, h1, h2, h3⟩ | ⟨h0, h⟩
  · have hp : putB tt qt b1 = false := by unfold putB; rw [hb, h0]; simp
    rw [hp]
    exact ⟨h1, L, V, h2.more (by omega), ⟨V, hV, fun s k => by rw [if_neg (fun h => nomatch h.1)]⟩, fun i hi => .inl hi, h3⟩
  · have hm : min tt 10800 = tt := by omega
    rw [hm] at h
    obtain ⟨h1, ⟨L', h2, h3⟩, h4⟩ := h
    have hh : holds V (noTh qn (if b1 = true then 0 else qt) tt b1) tt now = !decide (tt = 0) := holds_ns hV hnow _ _ _ _ _ _ _
    rw [hh] at h1 h2
    have hp : putB tt qt b1 = !decide (tt = 0) := by
      unfold putB
      have hq : (b1 || !decide (qt = 0)) = true := by
        cases b1 with
        | true => rfl
        | false => rw [decide_eq_false (fun e => h0 ⟨e, rfl⟩)]; rfl
      rw [hq, Bool.and_true]
      by_cases h : tt = 0
      · rw [decide_eq_true h, decide_eq_false (by omega)]; rfl
      · rw [decide_eq_false h, decide_eq_true (by omega)]; rfl
    rw [hp]
    refine ⟨h1, L', _, h2, ⟨V, hV, fun s k => ?_⟩, h3, h4⟩
    by_cases h : tt = 0
    · rw [decide_eq_true h]; simp
    · rw [decide_eq_false h]
      simp only [Bool.not_false, if_true, true_and]
      rfl
/-- What is got of it. -/
theorem gotN {w : World} {held : Bool} {n qn : ByteArray} {qt tt now : Int} {b1 : Bool} {V : Bs → Int → Option En} {e : Ending} {w' : World} (hV : AfterV held (putB tt qt b1) n qn (if b1 = true then 0 else qt) tt now b1 V) (htt : 0 ≤ tt ∧ tt ≤ 10800)
    (h : GotE (gets V qn qt 4 now) now w e w') : ∃ (n' : ByteArray) (t' l' : Int) (A : Option Addr) (len c : Nat) (rk : Int) (no nm ok : Bool), e = .returned (.tuple #[.agg #[.string n', .int .u16 t', .int .u32 l', .slice A len c, .int .u8 rk, .bool no, .bool nm], .bool ok]) ∧ (putB tt qt b1 = true → no = true ∧ nm = b1 ∧ l' = tt ∧ ok = true) := by
  cases hp : putB tt qt b1 with
  | true =>
    have htp : 0 < tt := by
      unfold putB at hp
      simp only [Bool.and_eq_true, decide_eq_true_eq] at hp
      exact hp.1
    rw [hp] at hV
    rw [after_get hV htp] at h
    obtain ⟨A, c, he, _, _⟩ := h
    exact ⟨_, _, _, A, _, c, _, _, _, _, he, fun _ => ⟨rfl, rfl, by show min (now + tt - now) 604800 = tt; omega, rfl⟩⟩
  | false =>
    cases ho : gets V qn qt 4 now with
    | none =>
      rw [ho] at h
      exact ⟨⟨#[]⟩, 0, 0, none, 0, 0, 0, false, false, false, h, fun h => nomatch h⟩
    | some y =>
      rw [ho] at h
      obtain ⟨A, c, he, _, _⟩ := h
      exact ⟨_, _, _, A, _, c, _, _, _, _, he, fun h => nomatch h⟩
/-- What is told of the closest cut. -/
theorem closeN {held : Bool} {n qn : ByteArray} {qt tt now : Int} {b1 : Bool} {V : Bs → Int → Option En} {x : SV} {k : Int} (hV : AfterV held (putB tt qt b1) n qn (if b1 = true then 0 else qt) tt now b1 V) (hh : held = true) (hw : withinB qn.data.toList n.data.toList = true) (hs : ¬ (sameB qn.data.toList n.data.toList = true ∧ qt = 2))
    (hx : ∀ up y, closeE V now (upsL qn.data.toList) = some (up, y) → x.nm = ⟨up.toArray⟩ ∧ k = 0) : k = 0 ∧ sameB x.nm.data.toList n.data.toList = true := by
  subst hh
  obtain ⟨up, y, h1, h2⟩ := after_cut hV (fun hp => by unfold putB at hp; simp only [Bool.and_eq_true, decide_eq_true_eq] at hp; exact hp.1) hw (fun h => by
    obtain ⟨_, ht, hf⟩ := h
    have hw2 := (within_iff _ _).1 hw
    cases b1 with
    | true => rw [if_pos rfl] at ht; omega
    | false =>
      rw [if_neg (by decide)] at ht
      refine hs ⟨?_, ht⟩
      have hlen := congrArg List.length hf
      rw [foldB_length, foldB_length] at hlen
      unfold sameB
      rw [hw2.1, hw2.2.1, hf, decide_eq_true hlen]
      simp)
  obtain ⟨e1, e2⟩ := hx up y h1
  exact ⟨e2, by rw [e1]; exact h2⟩
end Go.Proofs.Ytfipacfompihkaa
