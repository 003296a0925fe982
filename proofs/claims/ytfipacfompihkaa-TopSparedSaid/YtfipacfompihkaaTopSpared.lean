/- The walk of hardtacktop.TopSpared. Conditions: none. -/
import Derived.Test.YtfipacfompihkaaPeKnown
import Derived.Test.YtfipacfompihkaaTopBegin
import Derived.Deep.DeepCutAuto
namespace Go.Proofs.Ytfipacfompihkaa
open Go.RowKit Go.Lib

/-- What stands while failures are noted: nobody is known, or bad is. -/
def PK (w w3 wr : World) (g mb k : Nat) (bad now : Int) : Prop :=
  (k = 0 ∧ P0 wr g mb 0 ∨ 0 < k ∧ ∃ nb f r, P1 wr g mb nb k bad f r ∧ (0 ≤ f ∧ f ≤ 30) ∧ now < r ∧ r ≤ now + 900 ∧ w3.heap.size ≤ nb) ∧ Below w3.heap.size w3 wr ∧ w3.heap.size ≤ g ∧ w3.heap.size ≤ mb
theorem PK.fail {w w1 wr : World} {g mb k : Nat} {bad now : Int} (h : PK w w1 wr g mb k bad now) (hb : 0 ≤ bad ∧ bad ≤ 4294967295) (hn : 0 ≤ now ∧ now ≤ 1099511627776) (hk : k < 100000) :
    Calls Try.prog 9 #[.pointer (some ⟨g, 0, none⟩), .int .u32 bad, .int .i64 now] wr fun e w' => e = .returned (.bool true) ∧ PK w w1 w' g mb (k + 1) bad now := by
  obtain ⟨h1, h2, h3, h4⟩ := h
  have z := h2.size
  rcases h1 with ⟨rfl, h0⟩ | ⟨hk0, nb, f, r, hp, q1, q2, q3, q4⟩
  · refine (fail0_any h0 bad now hb hn).mono ?_
    rintro e w' ⟨rfl, ⟨nb, f, r, p1, ⟨p2, p3⟩, p4⟩, kk⟩
    have kb : Below w1.heap.size w1 w' := ((KeepK.of_below (K := fun i => i < w1.heap.size) h2 fun i hi => hi).trans (KeepK.mono kk fun i hi => ⟨by omega, by omega, by omega⟩)).below fun i hi => hi
    exact ⟨rfl, .inr ⟨by omega, nb, f, r, p1, p2, p3.1, p3.2, by omega⟩, kb, h3, h4⟩
  · refine (fail1p_any hp hk now hb q1 hn).mono ?_
    rintro e w' ⟨rfl, ⟨f', r', p1, p2, p3, p4⟩, kk⟩
    have kb : Below w1.heap.size w1 w' := ((KeepK.of_below (K := fun i => i < w1.heap.size) h2 fun i hi => hi).trans (KeepK.mono kk fun i hi => ⟨by omega, by omega, by omega, by omega⟩)).below fun i hi => hi
    exact ⟨rfl, .inr ⟨by omega, nb, f', r', p1, p2, p3, p4, q4⟩, kb, h3, h4⟩
/-- What Of says, whoever is asked for. -/
structure OfK (wr : World) (g k : Nat) (bad now : Int) (P : Int → Pe) : Prop where
  a : ∀ b, (P b).a = b
  z : ∀ b, b ≠ bad → (P b).f = 0 ∧ (P b).r = 0
  k0 : k = 0 → (P bad).f = 0 ∧ (P bad).r = 0
  k1 : 0 < k → now < (P bad).r ∧ (P bad).r ≤ now + 900
  call : ∀ W, Below wr.heap.size wr W → ∀ b : Int, 0 ≤ b ∧ b ≤ 4294967295 → Calls Try.prog 12 #[.pointer (some ⟨g, 0, none⟩), .int .u32 b] W fun e w' => e = .returned (P b).val ∧ Below W.heap.size W w'
theorem of_P0 {wr : World} {g mb n : Nat} {bad now : Int} (h : P0 wr g mb n) : OfK wr g 0 bad now fun b => ⟨b, 0, 0⟩ := by
  refine ⟨fun _ => rfl, fun _ _ => ⟨rfl, rfl⟩, fun _ => ⟨rfl, rfl⟩, fun h => absurd h (by omega), fun W hW b hb => ?_⟩
  have h2 := h.below hW
  obtain ⟨F, m1, m2⟩ := h2.mp
  refine of_none b h2.bx fun X hX => ?_
  have := (m1.below hX m1.lt).look keyed32p Try.underlying83 (zero_ptrP X) (Maps.keyOf_int_mk Try.underlying23 (wf32p hb))
  rw [m2 b] at this
  exact this
theorem of_P1 {wr : World} {g mb nb n k : Nat} {bad now f r : Int} (h : P1 wr g mb nb n bad f r) (hk : 0 < k) (h1 : now < r ∧ r ≤ now + 900) : OfK wr g k bad now fun b => if b = bad then ⟨bad, f, r⟩ else ⟨b, 0, 0⟩ := by
  refine ⟨fun b => ?_, fun b hb => by simp [hb], fun h => absurd h (by omega), fun _ => by simpa using h1, fun W hW b hb => ?_⟩
  · split
    · rename_i e; exact e.symm
    · rfl
  · have h2 := h.below hW
    obtain ⟨F, m1, m2⟩ := h2.mp
    by_cases e : b = bad
    · rw [if_pos e]
      refine of_some b h2.bx h2.no fun X hX => ?_
      have := (m1.below hX m1.lt).look keyed32p Try.underlying83 (zero_ptrP X) (Maps.keyOf_int_mk Try.underlying23 (wf32p hb))
      rw [m2 b, if_pos e] at this
      exact this
    · rw [if_neg e]
      refine of_none b h2.bx fun X hX => ?_
      have := (m1.below hX m1.lt).look keyed32p Try.underlying83 (zero_ptrP X) (Maps.keyOf_int_mk Try.underlying23 (wf32p hb))
      rw [m2 b, if_neg e] at this
      exact this
theorem of_P1z {wr : World} {g mb nb n : Nat} {bad now : Int} (h : P1 wr g mb nb n bad 0 0) : OfK wr g 0 bad now fun b => if b = bad then ⟨bad, 0, 0⟩ else ⟨b, 0, 0⟩ := by
  refine ⟨fun b => ?_, fun b hb => by simp [hb], fun _ => by simp, fun h => absurd h (by omega), fun W hW b hb => ?_⟩
  · split
    · rename_i e; exact e.symm
    · rfl
  · have h2 := h.below hW
    obtain ⟨F, m1, m2⟩ := h2.mp
    by_cases e : b = bad
    · rw [if_pos e]
      refine of_some b h2.bx h2.no fun X hX => ?_
      have := (m1.below hX m1.lt).look keyed32p Try.underlying83 (zero_ptrP X) (Maps.keyOf_int_mk Try.underlying23 (wf32p hb))
      rw [m2 b, if_pos e] at this
      exact this
    · rw [if_neg e]
      refine of_none b h2.bx fun X hX => ?_
      have := (m1.below hX m1.lt).look keyed32p Try.underlying83 (zero_ptrP X) (Maps.keyOf_int_mk Try.underlying23 (wf32p hb))
      rw [m2 b, if_neg e] at this
      exact this
theorem PK.good {w w1 wr W : World} {g mb k : Nat} {bad now : Int} (h : PK w w1 wr g mb k bad now) (hW : Below wr.heap.size wr W) (hb : 0 ≤ bad ∧ bad ≤ 4294967295) (hk : k < 100000) :
    Calls Try.prog 13 #[.pointer (some ⟨g, 0, none⟩), .int .u32 bad] W fun e w' => e = .returned (.bool true) ∧ (∃ P, OfK w' g 0 bad now P ∧ ∀ b, (P b).f = 0 ∧ (P b).r = 0) ∧ Below w1.heap.size w1 w' := by
  obtain ⟨h1, h2, h3, h4⟩ := h
  have z := h2.size
  have hbW : Below w1.heap.size w1 W := h2.trans (hW.mono z)
  have zz := hW.size
  have fin : ∀ {w' : World} {nb n f r}, P1 w' g mb nb n bad f r → f = 0 ∧ r = 0 → ∃ P, OfK w' g 0 bad now P ∧ ∀ b, (P b).f = 0 ∧ (P b).r = 0 := by
    rintro w' nb n f r hp ⟨rfl, rfl⟩
    refine ⟨_, of_P1z hp, fun b => ?_⟩
    by_cases e : b = bad
    · rw [if_pos e]; exact ⟨rfl, rfl⟩
    · rw [if_neg e]; exact ⟨rfl, rfl⟩
  rcases h1 with ⟨rfl, h0⟩ | ⟨hk0, nb, f, r, hp, q1, q2, q3, q4⟩
  · refine (good0_any (h0.below hW) bad hb).mono ?_
    rintro e w' ⟨rfl, ⟨nb, f, r, p1, p2, p4⟩, kk⟩
    exact ⟨rfl, fin p1 p2, ((KeepK.of_below (K := fun i => i < w1.heap.size) hbW fun i hi => hi).trans (KeepK.mono kk fun i hi => ⟨by omega, by omega, by omega⟩)).below fun i hi => hi⟩
  · refine (good1p_any (hp.below hW) hk hb).mono ?_
    rintro e w' ⟨rfl, ⟨f', r', p1, p2⟩, kk⟩
    exact ⟨rfl, fin p1 p2, ((KeepK.of_below (K := fun i => i < w1.heap.size) hbW fun i hi => hi).trans (KeepK.mono kk fun i hi => ⟨by omega, by omega, by omega, by omega⟩)).below fun i hi => hi⟩
theorem filter_two {α : Type} (p : α → Bool) (l : List α) : (l.filter fun x => !p x).length + (l.filter p).length = l.length := by
  induction l with
  | nil => rfl
  | cons x l ih =>
    by_cases h : p x = true
    · simp [List.filter_cons, h]; omega
    · simp [List.filter_cons, h]; omega
theorem mem_known {P : Int → Pe} {xs : List Nat} {x : Pe} (h : x ∈ knownL P xs) : ∃ b : Int, x = P b := by
  obtain ⟨n, _, rfl⟩ := List.mem_map.1 h
  exact ⟨_, rfl⟩
theorem OfK.ready {wr : World} {g k : Nat} {bad now : Int} {P : Int → Pe} (h : OfK wr g k bad now P) {xs : List Nat} {x : Pe} (hx : x ∈ readyL now (knownL P xs)) : x.f = 0 ∧ (0 < k → x.a ≠ bad) := by
  obtain ⟨h1, h2⟩ := List.mem_filter.1 hx
  obtain ⟨b, rfl⟩ := mem_known h1
  have h3 : ¬ now < (P b).r := by simpa using h2
  by_cases e : b = bad
  · subst e
    by_cases hk : k = 0
    · exact ⟨(h.k0 hk).1, fun h => absurd h (by omega)⟩
    · exact absurd (h.k1 (by omega)).1 h3
  · exact ⟨(h.z b e).1, fun _ => by rw [h.a]; exact e⟩
theorem OfK.rest {wr : World} {g k : Nat} {bad now : Int} {P : Int → Pe} (h : OfK wr g k bad now P) (hn : 0 ≤ now) {xs : List Nat} {x : Pe} (hx : x ∈ restL now (knownL P xs)) : x = P bad := by
  obtain ⟨h1, h2⟩ := List.mem_filter.1 hx
  obtain ⟨b, rfl⟩ := mem_known h1
  have h3 : now < (P b).r := by simpa using h2
  by_cases e : b = bad
  · rw [e]
  · have := (h.z b e).2
    omega
set_option maxRecDepth 100000 in
set_option maxHeartbeats 8000000 in
theorem topSpared_law (w : World) (A : Option Addr) (xs : List Nat) (c : Nat) (bad fails now draw : Int) (hU : U32s w A xs) (hc : xs.length ≤ c) (hm : c ≤ maxLen) (hb : 0 ≤ bad ∧ bad ≤ 4294967295) (hf : 0 ≤ fails ∧ fails ≤ 255) (hd : 0 ≤ draw ∧ draw ≤ 18446744073709551615) :
    Calls Try.prog 3 #[.slice A xs.length c, .int .u32 bad, .int .u8 fails, .int .i64 now, .int .u64 draw] w fun e w' => e = .returned (.bool true) ∧ Below w.heap.size w w' := by
  have HU := Lib.hid (And.intro hU (And.intro hb (And.intro hf hd)))
  unfold maxLen at hm
  have hlI : (xs.length : Int) ≤ 9223372036854775807 := by omega
  clear hU hc hm hb hf hd
  go_enter Try.func3, Try.ntmps3
  go_wp2_with (fail)
  with_reducible refine (begins_any _).mono ?_
  rintro e w1 ⟨rfl, hb⟩
  have B1 := Lib.hid hb
  clear hb
  by_cases h40 : 40 < xs.length
  · have h4I : (40 : Int) < (xs.length : Int) := by omega
    clear h40
    go_wp2_with (fail)
    go_ret
    exact ⟨rfl, B1.out⟩
  have h4I : ¬ (40 : Int) < (xs.length : Int) := by omega
  have H40 := Lib.hid (show xs.length ≤ 40 by omega)
  clear h40
  by_cases hn0 : now < 0
  · go_wp2_with (fail)
    go_ret
    exact ⟨rfl, B1.out⟩
  by_cases hn1 : 1099511627776 < now
  · go_wp2_with (fail)
    go_ret
    exact ⟨rfl, B1.out⟩
  have HN := Lib.hid (show 0 ≤ now ∧ now ≤ 1099511627776 by omega)
  go_wp2_with (fail)
  with_reducible refine (pe_new _).mono ?_
  rintro e w2 ⟨g, mb, rfl, k1, k2, k3, k4⟩
  have W2 := Lib.hid (show PK w w1 w2 g mb 0 bad now from ⟨.inl ⟨rfl, k1⟩, k2, k3, k4⟩)
  clear k1 k2 k3 k4
  obtain ⟨fn, hfn⟩ : ∃ fn : Nat, fails = (fn : Int) := ⟨fails.toNat, by have := HU.out.2.2.1; omega⟩
  subst hfn
  have hfnI : (fn : Int) ≤ 255 := HU.out.2.2.1.2
  go_wp2_with (fail)
  go_loopg [44] fn (fun gg v44 wr => ∃ k : Nat, v44 = .int .u8 (k : Int) ∧ Aside (gg + k = fn) ∧ Aside (PK w w1 wr g mb k bad now))
  case atStart => exact ⟨0, rfl, rfl, W2.out⟩
  case round =>
    obtain ⟨k, rfl, hg, hP⟩ := hrel
    by_cases hlt : k < fn
    · have hltI : (k : Int) < (fn : Int) := by omega
      have HC := Lib.hid (PK.fail hP.out HU.out.2.1 HN.out (by omega))
      clear hlt
      go_wp2_with (fail)
      with_reducible refine HC.out.mono ?_
      rintro e w3 ⟨rfl, hp⟩
      have H3 := Lib.hid hp
      clear hp
      go_wp2_with (fail)
      go_roundg (fn - (k + 1))
      case measure => have := hg.out; have := hltI; omega
      case rel => exact ⟨k + 1, by go_num, (show fn - (k + 1) + (k + 1) = fn by have := hltI; omega), H3.out⟩
    · have hltI : ¬ (k : Int) < (fn : Int) := by omega
      have hke : k = fn := by have := hg.out; omega
      subst hke
      clear hlt
      obtain ⟨P, hPO⟩ : ∃ P, OfK wr g k bad now P := by
        obtain ⟨h1, _⟩ := hP.out
        rcases h1 with ⟨rfl, h0⟩ | ⟨hk0, nb, f, r, hp, q1, q2, q3, q4⟩
        · exact ⟨_, of_P0 h0⟩
        · exact ⟨_, of_P1 hp hk0 ⟨q2, q3⟩⟩
      have HPO := Lib.hid hPO
      have hbw : Below w.heap.size w wr := B1.out.trans (hP.out.2.1.mono B1.out.size)
      have HK := Lib.hid (known_any g xs A c (HU.out.1.below hbw) H40.out P hPO.call)
      have HBW := Lib.hid hbw
      clear hPO hbw
      go_wp2_with (fail)
      with_reducible refine HK.out.mono ?_
      rintro e w4 ⟨A4, c4, rfl, hk4⟩
      have H4 := Lib.hid hk4
      have HO := Lib.hid (order_any now draw (knownL P xs) A4 c4 w4 hk4.s (by unfold knownL; rw [List.length_map]; exact H40.out) (fun x hx y hy => by rw [(HPO.out.ready hx).1, (HPO.out.ready hy).1]) (fun x hx y hy => by rw [HPO.out.rest HN.out.1 hx, HPO.out.rest HN.out.1 hy]) HU.out.2.2.2)
      clear hk4 HK
      go_wp2_with (fail)
      with_reducible refine HO.out.mono ?_
      rintro e w5 ⟨A5, c5, R, rfl, o1, o2, o3, o4, o5⟩
      have H5 := Lib.hid (And.intro o1 (And.intro o2 (And.intro o3 (And.intro o4 o5))))
      clear o1 o2 o3 o4 o5 HO
      obtain ⟨O, hO⟩ : ∃ O, R ++ restL now (knownL P xs) = O := ⟨_, rfl⟩
      have HAT := Lib.hid (fun (i : Nat) (x : Pe) (hx : O[i]? = some x) (hk0 : 0 < k) => show (i < R.length → x.a ≠ bad) ∧ (¬ i < R.length → x.a = bad) from by
        rw [← hO] at hx
        refine ⟨fun hi => ?_, fun hi => ?_⟩
        · rw [List.getElem?_append_left hi] at hx
          exact (HPO.out.ready (H5.out.2.1 x (List.mem_of_getElem? hx))).2 hk0
        · rw [List.getElem?_append_right (by omega)] at hx
          rw [HPO.out.rest HN.out.1 (List.mem_of_getElem? hx), HPO.out.a])
      rw [hO] at H5 ⊢
      have HO2 := Lib.hid hO
      have hOl : (O.length : Int) ≤ 40 := by
        rw [← hO, List.length_append, H5.out.2.2.1]
        unfold readyL restL
        have := filter_two (fun x : Pe => decide (now < x.r)) (knownL P xs)
        have h2 : (knownL P xs).length = xs.length := by unfold knownL; rw [List.length_map]
        have := H40.out
        omega
      clear hO
      go_wp2_with (fail)
      go_loopg [14, 59] O.length (fun gg v14 v59 wr => ∃ (i : Nat) (seen : Bool), v14 = .bool seen ∧ v59 = .int .i64 (i : Int) ∧ Aside (gg + i = O.length) ∧ Aside (0 < k → seen = true → R.length ≤ i) ∧ Aside (Below w5.heap.size w5 wr))
      case atStart => exact ⟨0, false, rfl, rfl, rfl, (show 0 < k → false = true → R.length ≤ 0 from fun _ h => nomatch h), Below.refl _ _⟩
      case round =>
        obtain ⟨i, seen, rfl, rfl, hg2, hs, hB⟩ := hrel
        by_cases hil : i < O.length
        · have hilI : (i : Int) < (O.length : Int) := by omega
          obtain ⟨x, hx⟩ : ∃ x, O[i]? = some x := ⟨_, List.getElem?_eq_getElem hil⟩
          obtain ⟨q, rfl, hq, x0, x1, x2, x3, x4⟩ := (H5.out.1.below hB.out).cells hx
          have hat := HAT.out i x hx
          have HX := Lib.hid (And.intro hat hs.out)
          clear hat hx hil hq
          have hku : (k : Int) ≤ 255 := hfnI
          by_cases ha : x.a = bad
          · have e1 : (x.a != bad) = false := by simp [ha]
            have e2 : (x.a == bad) = true := by simp [ha]
            cases seen with
            | false =>
              go_wp2_with (fail)
              go_roundg (O.length - (i + 1))
              case measure => have := hg2.out; have := hilI; omega
              case rel => exact ⟨i + 1, true, rfl, by go_num, (show O.length - (i + 1) + (i + 1) = O.length by have := hilI; omega), (show 0 < k → true = true → R.length ≤ i + 1 from fun hk _ => by by_cases h : i < R.length; exact absurd ha ((HX.out.1 hk).1 h); omega), hB.out.trans (((Below.refl _ _).alloc (Nat.le_refl _) _).mono hB.out.size)⟩
            | true =>
              go_wp2_with (fail)
              go_roundg (O.length - (i + 1))
              case measure => have := hg2.out; have := hilI; omega
              case rel => exact ⟨i + 1, true, rfl, by go_num, (show O.length - (i + 1) + (i + 1) = O.length by have := hilI; omega), (show 0 < k → true = true → R.length ≤ i + 1 from fun hk _ => by by_cases h : i < R.length; exact absurd ha ((HX.out.1 hk).1 h); omega), hB.out.trans (((Below.refl _ _).alloc (Nat.le_refl _) _).mono hB.out.size)⟩
          · have e1 : (x.a != bad) = true := by simp [ha]
            have e2 : (x.a == bad) = false := by simp [ha]
            cases seen with
            | false =>
              go_wp2_with (fail)
              go_roundg (O.length - (i + 1))
              case measure => have := hg2.out; have := hilI; omega
              case rel => exact ⟨i + 1, false, rfl, by go_num, (show O.length - (i + 1) + (i + 1) = O.length by have := hilI; omega), (show 0 < k → false = true → R.length ≤ i + 1 from fun _ h => nomatch h), hB.out.trans (((Below.refl _ _).alloc (Nat.le_refl _) _).mono hB.out.size)⟩
            | true =>
              have hk0 : ¬ 0 < k := fun hk => by
                have := HX.out.2 hk rfl
                exact ha ((HX.out.1 hk).2 (by omega))
              have hkI : ¬ (0 : Int) < (k : Int) := by omega
              go_wp2_with (fail)
              go_roundg (O.length - (i + 1))
              case measure => have := hg2.out; have := hilI; omega
              case rel => exact ⟨i + 1, true, rfl, by go_num, (show O.length - (i + 1) + (i + 1) = O.length by have := hilI; omega), (show 0 < k → true = true → R.length ≤ i + 1 from fun hk _ => absurd hk hk0), hB.out.trans (((Below.refl _ _).alloc (Nat.le_refl _) _).mono hB.out.size)⟩
        · have hilI : ¬ (i : Int) < (O.length : Int) := by omega
          clear hil
          have hq : Below w5.heap.size w5 wr := hB.out
          have HQ := Lib.hid ((H4.out.b.trans (H5.out.2.2.2.2.mono H4.out.b.size)).trans (hq.mono (H4.out.b.trans (H5.out.2.2.2.2.mono H4.out.b.size)).size))
          have HC := Lib.hid (HPO.out.call _ HQ.out bad HU.out.2.1)
          have HG := Lib.hid (fun (W : World) (hW : Below wr.heap.size wr W) => PK.good hP.out (HQ.out.trans (hW.mono HQ.out.size)) HU.out.2.1 (by omega))
          obtain ⟨Y, hY⟩ : ∃ Y, P bad = Y := ⟨_, rfl⟩
          have HY := Lib.hid hY
          rw [hY] at HC
          unfold Pe.val at HC
          clear hq hY
          go_wp2_with (fail)
          with_reducible refine HC.out.mono ?_
          rintro e w6 ⟨rfl, hb6⟩
          have H6 := Lib.hid (HG.out w6 hb6)
          clear hb6 HC
          have hfd : ∀ W, (Instr.field 35 (.agg #[.int .u32 Y.a, .string ⟨#[]⟩, .bool false, .int .i64 Y.f, .int .i64 Y.r]) 4).run Try.prog W = .ok (.int .i64 Y.r) W := fun _ => rfl
          have hkk : (0 < k ∧ now < Y.r ∧ Y.r ≤ now + 900) ∨ ¬ 0 < k := by
            by_cases h : 0 < k
            · have := HPO.out.k1 h
              rw [HY.out] at this
              exact .inl ⟨h, this⟩
            · exact .inr h
          have hlast : (O.length : Int) = (xs.length : Int) := by
            have h1 := HO2.out
            rw [← h1, List.length_append, H5.out.2.2.1]
            unfold readyL restL
            have := filter_two (fun x : Pe => decide (now < x.r)) (knownL P xs)
            have h2 : (knownL P xs).length = xs.length := by unfold knownL; rw [List.length_map]
            omega
          have HL := Lib.hid hlast
          clear hlast
          rcases hkk with ⟨hk0, hy1, hy2⟩ | hk0
          case' inl =>
            have hkI : (0 : Int) < (k : Int) := by omega
            have hyn : ¬ Y.r ≤ now := by omega
            have hyv : ¬ now + 900 < Y.r := by omega
            go_wp2_with (fail)
          case' inr =>
            have hkI : ¬ (0 : Int) < (k : Int) := by omega
            go_wp2_with (fail)
          all_goals
            with_reducible refine H6.out.mono ?_
            rintro e w7 ⟨rfl, ⟨P2, hP2, hz2⟩, hb7⟩
            have HB7 := Lib.hid (B1.out.trans (hb7.mono B1.out.size))
            have HZ2 := Lib.hid hz2
            have HK2 := Lib.hid (known_any g xs A c (HU.out.1.below HB7.out) H40.out P2 hP2.call)
            clear hb7 hz2 hP2
            go_wp2_with (fail)
            with_reducible refine HK2.out.mono ?_
            rintro e w8 ⟨A8, c8, rfl, hk8⟩
            have hkz : ∀ x ∈ knownL P2 xs, x.f = 0 ∧ x.r = 0 := fun x hx => by
              obtain ⟨b, rfl⟩ := mem_known hx
              exact HZ2.out b
            have HO8 := Lib.hid (order_any now draw (knownL P2 xs) A8 c8 w8 hk8.s (by unfold knownL; rw [List.length_map]; exact H40.out) (fun x hx y hy => by rw [(hkz x (List.mem_filter.1 hx).1).1, (hkz y (List.mem_filter.1 hy).1).1]) (fun x hx y hy => by rw [(hkz x (List.mem_filter.1 hx).1).2, (hkz y (List.mem_filter.1 hy).1).2]) HU.out.2.2.2)
            have HKZ := Lib.hid hkz
            have H8 := Lib.hid (HB7.out.trans (hk8.b.mono HB7.out.size))
            clear hk8 HK2 hkz
            go_wp2_with (fail)
            with_reducible refine HO8.out.mono ?_
            rintro e w9 ⟨A9, c9, R9, rfl, o1, o2, o3, o4, o5⟩
            have H9 := Lib.hid (And.intro o1 (H8.out.trans (o5.mono H8.out.size)))
            obtain ⟨O9, hO9⟩ : ∃ O, R9 ++ restL now (knownL P2 xs) = O := ⟨_, rfl⟩
            have HZ9 := Lib.hid (show ∀ x ∈ O9, x.f = 0 ∧ x.r = 0 from fun x hx => by
              rw [← hO9] at hx
              rcases List.mem_append.1 hx with h | h
              · exact HKZ.out x (List.mem_filter.1 (o2 x h)).1
              · exact HKZ.out x (List.mem_filter.1 h).1)
            have h9l : (O9.length : Int) ≤ 40 := by
              rw [← hO9, List.length_append, o3]
              unfold readyL restL
              have := filter_two (fun x : Pe => decide (now < x.r)) (knownL P2 xs)
              have h2 : (knownL P2 xs).length = xs.length := by unfold knownL; rw [List.length_map]
              have := H40.out
              omega
            rw [hO9] at H9 ⊢
            clear o1 o2 o3 o4 o5 HO8 hO9
            go_wp2_with (fail)
            go_loopg [109] O9.length (fun gg v109 wr => ∃ (i : Nat), v109 = .int .i64 (i : Int) ∧ Aside (gg + i = O9.length) ∧ Aside (Below w9.heap.size w9 wr))
            case atStart => exact ⟨0, rfl, rfl, Below.refl _ _⟩
            case round =>
              obtain ⟨i9, rfl, hg9, hB9⟩ := hrel
              by_cases hil9 : i9 < O9.length
              · have hilI : (i9 : Int) < (O9.length : Int) := by omega
                obtain ⟨x, hx⟩ : ∃ x, O9[i9]? = some x := ⟨_, List.getElem?_eq_getElem hil9⟩
                obtain ⟨q, rfl, hq, x0, x1, x2, x3, x4⟩ := (H9.out.1.below hB9.out).cells hx
                obtain ⟨z1, z2⟩ := HZ9.out x (List.mem_of_getElem? hx)
                rw [z1] at x3
                rw [z2] at x4
                clear hx hil9 hq z1 z2
                go_wp2_with (fail)
                go_roundg (O9.length - (i9 + 1))
                case measure => have := hg9.out; have := hilI; omega
                case rel => exact ⟨i9 + 1, by go_num, (show O9.length - (i9 + 1) + (i9 + 1) = O9.length by have := hilI; omega), hB9.out.trans (((Below.refl _ _).alloc (Nat.le_refl _) _).mono hB9.out.size)⟩
              · have hilI : ¬ (i9 : Int) < (O9.length : Int) := by omega
                clear hil9
                have hle := HL.out
                have hBF := Lib.hid (H9.out.2.trans (hB9.out.mono H9.out.2.size))
                go_wp2_with (fail)
                go_ret
                exact ⟨by simp, hBF.out⟩
end Go.Proofs.Ytfipacfompihkaa
