/- The walk of edns.data. Conditions: none. -/
import Derived.Test.YthjkdpphbipgfaaEdSame
import Derived.Test.YthjkdpphbipgfaaOptB
import Derived.Test.YthjkdpphbipgfaaWriterF
namespace Go.Proofs.Ythjkdpphbipgfaa
open Go.RowKit Go.Shelf Go.Lib

theorem optsB_le {xs : List Opt} {k : Nat} (_h : k ≤ xs.length) : (optsB (xs.take k)).length ≤ (optsB xs).length := by
  conv => rhs; rw [← List.take_append_drop k xs]
  unfold optsB; rw [List.flatMap_append, List.length_append]; omega
/-- What stands while the options are written. -/
def WSt (xs : List Opt) (k : Nat) (full : Bool) (l : List UInt8) : Prop :=
  (full = false → l = optsB (xs.take k)) ∧ ((optsB (xs.take k)).length ≤ 4096 → full = false) ∧ l.length ≤ 4096
theorem wput_le {full : Bool} {l s : List UInt8} (h : l.length ≤ 4096) : (wput 4096 full l s).2.length ≤ 4096 := by
  unfold wput
  split
  · exact h
  · split
    · rename_i h2
      rcases h2 with h2 | h2
      · simp [h2]; exact h
      · rw [List.length_append]; omega
    · exact h
theorem wput_false {full : Bool} {l s : List UInt8} (h : (wput 4096 full l s).1 = false) : full = false ∧ (wput 4096 full l s).2 = l ++ s := by
  unfold wput at h ⊢
  cases full with
  | true => simp at h
  | false =>
    refine ⟨rfl, ?_⟩
    simp only [Bool.false_eq_true, if_false] at h ⊢
    split at h
    · rename_i h2; rw [if_pos h2]
    · simp at h
theorem WSt.step {xs : List Opt} {k : Nat} {full : Bool} {l : List UInt8} (h : WSt xs k full l) {o : Opt} (ho : xs[k]? = some o) {x y : Bool × List UInt8}
    (hx : wput 4096 full l (bigB o.c.toNat 2) = x) (hy : wput 4096 x.1 x.2 (bigB o.d.size 2) = y) :
    WSt xs (k + 1) (wput 4096 y.1 y.2 o.d.data.toList).1 (wput 4096 y.1 y.2 o.d.data.toList).2 := by
  obtain ⟨h1, h2, h3⟩ := h
  have hx3 : x.2.length ≤ 4096 := by rw [← hx]; exact wput_le h3
  have hy3 : y.2.length ≤ 4096 := by rw [← hy]; exact wput_le hx3
  refine ⟨fun h => ?_, fun h => ?_, wput_le hy3⟩
  · obtain ⟨f1, f2⟩ := wput_false h
    have f1' : (wput 4096 x.1 x.2 (bigB o.d.size 2)).1 = false := by rw [hy]; exact f1
    obtain ⟨g1, g2⟩ := wput_false f1'
    rw [hy] at g2
    have g1' : (wput 4096 full l (bigB o.c.toNat 2)).1 = false := by rw [hx]; exact g1
    obtain ⟨e1, e2⟩ := wput_false g1'
    rw [hx] at e2
    rw [f2, g2, e2, h1 e1, optsB_take ho]
    unfold optB
    simp only [List.append_assoc]
  · rw [optsB_take ho, List.length_append] at h
    have hf := h2 (by omega)
    have hl := h1 hf
    subst hf
    have hd : o.d.data.toList.length = o.d.size := by simp
    unfold optB at h
    rw [List.length_append, List.length_append, bigB_length, bigB_length, hd] at h
    rw [wput_fits (by rw [bigB_length, hl]; omega)] at hx
    subst hx
    rw [wput_fits (by rw [bigB_length, List.length_append, bigB_length, hl]; omega)] at hy
    subst hy
    rw [wput_fits (by rw [hd, List.length_append, List.length_append, bigB_length, bigB_length, hl]; omega)]

/-- What data gives. -/
def DataPost (xs : List Opt) (w : World) (e : Ending) (w' : World) : Prop :=
  ∃ (s : ByteArray) (ok : Bool), e = .returned (.tuple #[.string s, .bool ok]) ∧ (ok = true → s.data.toList = optsB xs ∧ s.size ≤ 4096) ∧ ((optsB xs).length ≤ 4096 → ok = true) ∧ Below w.heap.size w w'
set_option maxRecDepth 100000 in
theorem data_no (sz hi ve fl : Int) (A : Option Addr) (n c : Nat) (w : World) :
    Calls Try.prog 57 #[ednsV false sz hi ve fl A n c] w fun e w' => e = .returned (.tuple #[.string ⟨#[]⟩, .bool (sz == 0 && hi == 0 && ve == 0 && fl == 0 && n == 0)]) ∧ Below w.heap.size w w' := by
  have hb : Below w.heap.size w (w.alloc (.cells #[.bool false, .int .u16 sz, .int .u8 hi, .int .u8 ve, .int .u16 fl, .slice A n c] 45)) := (Below.refl _ _).alloc (Nat.le_refl _) _
  have HS := Lib.hid (same_zero sz hi ve fl A n c (w.alloc (.cells #[.bool false, .int .u16 sz, .int .u8 hi, .int .u8 ve, .int .u16 fl, .slice A n c] 45)))
  have HB := Lib.hid hb
  clear hb
  unfold ednsV at HS ⊢
  obtain ⟨z, hz⟩ : ∃ z, (sz == 0 && hi == 0 && ve == 0 && fl == 0 && n == 0) = z := ⟨_, rfl⟩
  rw [hz] at HS ⊢
  clear hz
  go_enter Try.func57, Try.ntmps57
  go_wp2_with (fail)
  with_reducible refine HS.out.mono ?_
  rintro e w' ⟨rfl, hb⟩
  have H := Lib.hid hb
  clear hb
  go_wp2_with (fail)
  go_ret2
  exact ⟨rfl, HB.out.trans (H.out.mono HB.out.size)⟩

set_option maxRecDepth 100000 in
set_option maxHeartbeats 4000000 in
theorem data_yes (sz hi ve fl : Int) (A : Option Addr) (xs : List Opt) (c : Nat) (w : World) (hT : OTab w A xs) (hl : xs.length ≤ 1000) (hsz : ∀ o ∈ xs, o.d.size ≤ 1000000) :
    Calls Try.prog 57 #[ednsV true sz hi ve fl A xs.length c] w (DataPost xs w) := by
  have hlI : (xs.length : Int) ≤ 1000 := by omega
  have HT := Lib.hid (And.intro hT hsz)
  clear hT hsz hl
  unfold ednsV
  go_enter Try.func57, Try.ntmps57
  go_wp2_with (fail)
  with_reducible refine (wNew_any _ _).mono ?_
  rintro e w1 ⟨rfl, hW, hb⟩
  obtain ⟨w0, hw0⟩ : ∃ w0, w.alloc (.cells #[.bool true, .int .u16 sz, .int .u8 hi, .int .u8 ve, .int .u16 fl, .slice A xs.length c] 45) = w0 := ⟨_, rfl⟩
  have hbox : Blk w0 w.heap.size 45 #[.bool true, .int .u16 sz, .int .u8 hi, .int .u8 ve, .int .u16 fl, .slice A xs.length c] := by rw [← hw0]; exact Blk.new _ _ _
  have hb0 : Below w.heap.size w w0 := by rw [← hw0]; exact (Below.refl _ _).alloc (Nat.le_refl _) _
  rw [hw0] at hW hb ⊢
  have hs0 : w0.heap.size = w.heap.size + 1 := by rw [← hw0]; simp
  have hbx1 := hbox.below hb (by omega)
  have c5 := hbx1.cell 5
  have hw1 := hb.size
  obtain ⟨g, hg⟩ : ∃ g, w0.heap.size + 1 = g := ⟨_, rfl⟩
  rw [hg] at hW ⊢
  have hT1 := HT.out.1.below (hb0.trans (hb.mono hb0.size))
  have H1 := Lib.hid (And.intro hW (And.intro (hb0.trans (hb.mono hb0.size)) hT1))
  clear hw0 hbox hbx1 hW hb hb0 hT1 hg
  go_wp2_with (fail)
  go_loopg [6, 19] (xs.length + 1) (fun gg v6 v19 wr => ∃ (k : Nat) (full : Bool) (l : List UInt8), v19 = .int .i64 (k : Int) ∧ k ≤ xs.length ∧ gg + k = xs.length + 1 ∧ Aside (WSt xs k full l) ∧ Aside (Wr (fun i => i < w0.heap.size) wr g 4096 full (.map (some w0.heap.size)) l) ∧ Aside (KeepK (fun i => i < w0.heap.size) w1 wr))
  case atStart => exact ⟨0, false, [], rfl, Nat.zero_le _, rfl, ⟨fun _ => rfl, fun _ => rfl, by simp⟩, H1.out.1, KeepK.refl _ _⟩
  case round =>
    obtain ⟨k, full, l, rfl, hk, hgk, hS, hW, hK⟩ := hrel
    by_cases hlt : k < xs.length
    · have hltI : (k : Int) < (xs.length : Int) := by omega
      obtain ⟨o, ho⟩ : ∃ o, xs[k]? = some o := ⟨_, List.getElem?_eq_getElem hlt⟩
      obtain ⟨B, off, rfl, hB, -, -⟩ := HT.out.1.cells ho
      obtain ⟨B', off', hA', hB', d0, d1⟩ := H1.out.2.2.cells ho
      injection hA' with hA'
      injection hA' with q1 q2 _
      subst q1 q2
      have e0 : wr.cell? ⟨B, off + k * 2, none⟩ = some (.int .u16 o.c) := (hK.out.cell (p := ⟨B, off + k * 2, none⟩) (show B < w0.heap.size by omega)).trans d0
      have e1 : wr.cell? ⟨B, off + k * 2 + 1, none⟩ = some (.string o.d) := (hK.out.cell (p := ⟨B, off + k * 2 + 1, none⟩) (show B < w0.heap.size by omega)).trans d1
      have hoc : 0 ≤ o.c ∧ o.c ≤ 65535 := (HT.out.1.1 o (List.mem_of_getElem? ho)).1
      have hod : o.d.size ≤ 1000000 := HT.out.2 o (List.mem_of_getElem? ho)
      have hodI : (o.d.size : Int) ≤ 1000000 := by omega
      obtain ⟨cn, hcn⟩ : ∃ cn : Nat, o.c = (cn : Int) := ⟨o.c.toNat, by omega⟩
      have hcb : cn ≤ 65535 := by omega
      have hcbI : (cn : Int) ≤ 65535 := by omega
      rw [hcn] at e0
      have hgl := hW.out.lt
      have hWa := hW.out.alloc (.cells #[.int .u16 (cn : Int), .string o.d] 92)
      have hxa : Blk (wr.alloc (.cells #[.int .u16 (cn : Int), .string o.d] 92)) wr.heap.size 92 #[.int .u16 (cn : Int), .string o.d] := Blk.new _ _ _
      obtain ⟨v, hv⟩ : ∃ v, wr.alloc (.cells #[.int .u16 (cn : Int), .string o.d] 92) = v := ⟨_, rfl⟩
      have hKa : KeepK (fun i => i < w0.heap.size) w1 v := by rw [← hv]; exact hK.out.alloc (fun i hi => by have := hK.out.size; omega) _
      have hvs : wr.heap.size < v.heap.size := by rw [← hv]; simp
      rw [hv] at hWa hxa
      have y0 := hxa.cell 0
      have HX := Lib.hid (And.intro ho (And.intro hcn (And.intro hWa (And.intro hxa hKa))))
      have HN1 := Lib.hid (wNum_any 2 (.inr (.inl rfl)) cn (by omega) hWa (by have := hS.out.2.2; omega) (by omega))
      clear hoc hod ho hcn hWa hxa hKa hlt d0 d1
      go_wp2_with (fail)
      refine HN1.out.mono ?_
      rintro e v1 ⟨rfl, hW1, hK1⟩
      obtain ⟨x, hx⟩ : ∃ x, wput 4096 full l (bigB cn 2) = x := ⟨_, rfl⟩
      rw [hx] at hW1
      have hxa1 := HX.out.2.2.2.1.keepK hK1 (.inr rfl)
      have hK2 := HX.out.2.2.2.2.trans (hK1.mono fun i hi => .inl hi)
      have hvs1 : wr.heap.size < v1.heap.size := by have := hK1.size; omega
      have z1 := hxa1.cell 1
      have hx4 : x.2.length ≤ 4096 := by rw [← hx]; exact wput_le hS.out.2.2
      have HN2 := Lib.hid (wNum_any 2 (.inr (.inl rfl)) o.d.size (by omega) hW1 (by omega) (by omega))
      have HX2 := Lib.hid (And.intro hx (And.intro hxa1 hK2))
      clear hxa1 hK2 hW1 hK1 hx hx4
      go_wp2_with (fail)
      refine HN2.out.mono ?_
      rintro e v2 ⟨rfl, hW2, hK3⟩
      obtain ⟨y, hy⟩ : ∃ y, wput 4096 x.1 x.2 (bigB o.d.size 2) = y := ⟨_, rfl⟩
      rw [hy] at hW2
      have hxa2 := HX2.out.2.1.keepK hK3 (.inr rfl)
      have hK4 := HX2.out.2.2.trans (hK3.mono fun i hi => .inl hi)
      have hvs2 : wr.heap.size < v2.heap.size := by have := hK3.size; omega
      have y1 := hxa2.cell 1
      have hx4 : x.2.length ≤ 4096 := by rw [← HX2.out.1]; exact wput_le hS.out.2.2
      have hy4 : y.2.length ≤ 4096 := by rw [← hy]; exact wput_le hx4
      have HN3 := Lib.hid (wRaw_any o.d hW2 (by omega) (by omega))
      have HX3 := Lib.hid (And.intro hy hK4)
      clear hxa2 hK4 hW2 hK3 hy hx4 hy4
      go_wp2_with (fail)
      with_reducible refine HN3.out.mono ?_
      rintro e v3 ⟨rfl, hW3, hK5⟩
      have HX4 := Lib.hid (And.intro hW3 hK5)
      clear hW3 hK5
      go_wp2_with (fail)
      go_roundg (xs.length + 1 - (k + 1))
      case measure => omega
      case rel =>
        have hcn := HX.out.2.1
        refine ⟨k + 1, _, _, by go_num, by omega, by omega, hS.out.step HX.out.1 (by rw [hcn, Int.toNat_natCast]; exact HX2.out.1) HX3.out.1, HX4.out.1.mono fun i hi => .inl hi, HX3.out.2.trans (HX4.out.2.mono fun i hi => .inl hi)⟩
    · obtain rfl : k = xs.length := by omega
      clear hlt
      have hS2 := hS.out
      unfold WSt at hS2
      rw [List.take_length] at hS2
      have hB9 : Below w.heap.size w wr := ((KeepK.of_below (K := fun i => i < w.heap.size) H1.out.2.1 fun i hi => hi).trans (hK.out.mono fun i hi => by omega)).below fun i hi => hi
      cases full with
      | true =>
        have HO := Lib.hid (wOut_full hW.out)
        have HF := Lib.hid (And.intro hS2 hB9)
        clear hS2 hB9
        go_wp2_with (fail)
        with_reducible refine HO.out.mono ?_
        rintro e v ⟨rfl, rfl⟩
        go_wp2_with (fail)
        go_ret2
        exact ⟨_, false, rfl, (fun h => by cases h), (fun h => absurd (HF.out.1.2.1 h) (by simp)), HF.out.2⟩
      | false =>
        have HO := Lib.hid (wOut_any hW.out)
        have HF := Lib.hid (And.intro hS2 hB9)
        clear hS2 hB9
        go_wp2_with (fail)
        with_reducible refine HO.out.mono ?_
        rintro e v ⟨rfl, rfl⟩
        go_wp2_with (fail)
        go_ret2
        exact ⟨_, true, rfl, (fun _ => ⟨HF.out.1.1 (by trivial), by have := HF.out.1.2.2; show l.toArray.size ≤ 4096; simpa using this⟩), (fun _ => rfl), HF.out.2⟩
end Go.Proofs.Ythjkdpphbipgfaa
