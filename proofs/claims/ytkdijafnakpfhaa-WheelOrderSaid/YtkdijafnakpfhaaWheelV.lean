/- The wheel's lives. Conditions: none. -/
import Derived.Test.YtkdijafnakpfhaaWheelL
namespace Go.Proofs.Ytkdijafnakpfhaa
open Go.RowKit Go.Lib

theorem lwA1 {K : Nat → Prop} {w : World} {g mb : Nat} (h : LW K w g mb 0 []) : Calls Try.prog 8 #[.pointer (some ⟨g, 0, none⟩), .int .i64 3, .int .i64 20] w fun e w' => e = .returned (.bool true) ∧ LW K w' g mb 1 [⟨3, 20⟩] ∧ KeepK K w w' := h.add ⟨3, 20⟩ (by unfold Th.ok; decide) (by omega)
theorem lwA2 {K : Nat → Prop} {w : World} {g mb : Nat} (h : LW K w g mb 1 [⟨3, 20⟩]) : Calls Try.prog 8 #[.pointer (some ⟨g, 0, none⟩), .int .i64 2, .int .i64 10] w fun e w' => e = .returned (.bool true) ∧ LW K w' g mb 2 [⟨3, 20⟩, ⟨2, 10⟩] ∧ KeepK K w w' := h.add ⟨2, 10⟩ (by unfold Th.ok; decide) (by omega)
theorem lwA3 {K : Nat → Prop} {w : World} {g mb : Nat} (h : LW K w g mb 2 [⟨3, 20⟩, ⟨2, 10⟩]) : Calls Try.prog 8 #[.pointer (some ⟨g, 0, none⟩), .int .i64 1, .int .i64 10] w fun e w' => e = .returned (.bool true) ∧ LW K w' g mb 3 [⟨3, 20⟩, ⟨2, 10⟩, ⟨1, 10⟩] ∧ KeepK K w w' := h.add ⟨1, 10⟩ (by unfold Th.ok; decide) (by omega)
theorem lwA4 {K : Nat → Prop} {w : World} {g mb : Nat} (h : LW K w g mb 3 [⟨3, 20⟩, ⟨2, 10⟩, ⟨1, 10⟩]) : Calls Try.prog 8 #[.pointer (some ⟨g, 0, none⟩), .int .i64 2, .int .i64 30] w fun e w' => e = .returned (.bool false) ∧ LW K w' g mb 4 [⟨3, 20⟩, ⟨2, 10⟩, ⟨1, 10⟩] ∧ KeepK K w w' := h.add ⟨2, 30⟩ (by unfold Th.ok; decide) (by omega)
theorem lwN1 {K : Nat → Prop} {w : World} {g mb : Nat} (h : LW K w g mb 4 [⟨3, 20⟩, ⟨2, 10⟩, ⟨1, 10⟩]) : Calls Try.prog 14 #[.pointer (some ⟨g, 0, none⟩)] w fun e w' => e = .returned (.tuple #[.int .i64 10, .bool true]) ∧ LW K w' g mb 4 [⟨3, 20⟩, ⟨2, 10⟩, ⟨1, 10⟩] ∧ KeepK K w w' := h.next
theorem pop_lives : popV 3 [⟨3, 20⟩, ⟨2, 10⟩, ⟨1, 10⟩] 10 = ([⟨1, 10⟩, ⟨2, 10⟩], [⟨3, 20⟩]) := by rfl
theorem lwP {K : Nat → Prop} {w : World} {g mb : Nat} (h : LW K w g mb 4 [⟨3, 20⟩, ⟨2, 10⟩, ⟨1, 10⟩]) : Calls Try.prog 13 #[.pointer (some ⟨g, 0, none⟩), .int .i64 10] w fun e w' => ∃ A2 c2, e = .returned (.slice A2 2 c2) ∧ Sl w' 1 (.slice A2 2 c2) 2 [.int .i64 1, .int .i64 2] ∧ LW (fun b => K b ∨ (Value.slice A2 2 c2).ownBlock = some b) w' g mb 4 [⟨3, 20⟩] ∧ KeepK K w w' := by
  have := h.pop 10
  rw [show ([⟨3, 20⟩, ⟨2, 10⟩, ⟨1, 10⟩] : List Th).length = 3 from rfl, pop_lives] at this
  exact this
theorem lwD1 {K : Nat → Prop} {w : World} {g mb : Nat} (h : LW K w g mb 4 [⟨3, 20⟩]) : Calls Try.prog 10 #[.pointer (some ⟨g, 0, none⟩), .int .i64 3] w fun e w' => e = .returned (.bool true) ∧ LW K w' g mb 4 [] ∧ KeepK K w w' := h.drop 3 (by omega)
theorem lwD2 {K : Nat → Prop} {w : World} {g mb : Nat} (h : LW K w g mb 4 []) : Calls Try.prog 10 #[.pointer (some ⟨g, 0, none⟩), .int .i64 3] w fun e w' => e = .returned (.bool false) ∧ LW K w' g mb 4 [] ∧ KeepK K w w' := h.drop 3 (by omega)
theorem lwN2 {K : Nat → Prop} {w : World} {g mb : Nat} (h : LW K w g mb 4 []) : Calls Try.prog 14 #[.pointer (some ⟨g, 0, none⟩)] w fun e w' => e = .returned (.tuple #[.int .i64 0, .bool false]) ∧ LW K w' g mb 4 [] ∧ KeepK K w w' := h.next
theorem lwL {K : Nat → Prop} {w : World} {g mb : Nat} (h : LW K w g mb 4 []) : Calls Try.prog 16 #[.pointer (some ⟨g, 0, none⟩)] w fun e w' => e = .returned (.int .i64 0) ∧ LW K w' g mb 4 [] ∧ KeepK K w w' := h.len
theorem sl_two35 (w : World) (t : TypeId) (a b : Value) (ha : a.oneCell' = true) (hb : b.oneCell' = true) (g : Nat) (hg : w.heap.size = g) : Sl (w.alloc (.cells #[a, b] t)) 1 (.slice (some ⟨g, 0, none⟩) 2 2) 2 [a, b] := by
  subst hg
  have B := Blk.new w t #[a, b]
  refine ⟨by simp, .inr ⟨w.heap.size, 2, rfl, by simp, Nat.le_refl _, by unfold maxLen; omega, fun j hj => ?_, fun j u hu => ?_⟩⟩
  · have hj2 : j = 0 ∨ j = 1 := by omega
    rcases hj2 with rfl | rfl
    · exact ⟨by rw [B.cell 0]; rfl, B.frozen 0⟩
    · exact ⟨by rw [B.cell 1]; rfl, B.frozen 1⟩
  · match j, hu with
    | 0, hu => rw [B.cell 0]; simpa using hu
    | 1, hu => rw [B.cell 1]; simpa using hu
    | j + 2, hu => simp at hu
theorem lw_step {w wi wj : World} {v : Value} {n : Nat} {xs : List Value} (h : KeepK (fun b => b < w.heap.size) w wi ∧ Sl wi 1 v n xs) (k : KeepK (fun b => b < w.heap.size ∨ v.ownBlock = some b) wi wj) : KeepK (fun b => b < w.heap.size) w wj ∧ Sl wj 1 v n xs :=
  ⟨h.1.trans (KeepK.mono k fun b hb => .inl hb), h.2.keepK k fun g hg => .inr hg⟩
theorem below_of_keep {w w' : World} (h : KeepK (fun b => b < w.heap.size) w w') : Below w.heap.size w w' := ⟨h.os, h.tape, h.output, h.size, h.block⟩
theorem one_two35 : ([⟨1, 10⟩, ⟨2, 10⟩] : List Th).map idV = [.int .i64 1, .int .i64 2] := rfl
theorem same_lives {W : World} {A B : Option Addr} {c d : Nat} (hA : Sl W 1 (.slice A 2 c) 2 [.int .i64 1, .int .i64 2]) (hB : Sl W 1 (.slice B 2 d) 2 [.int .i64 1, .int .i64 2]) :
    Calls Try.prog 12 #[.slice A 2 c, .slice B 2 d] W fun e w' => e = .returned (.bool true) ∧ Below W.heap.size W w' := same35_any [⟨1, 10⟩, ⟨2, 10⟩] A B c d W hA hB (by simp)
set_option maxRecDepth 100000 in
set_option maxHeartbeats 400000 in
theorem lives35_any (w : World) : Calls Try.prog 5 #[] w fun e w' => e = .returned (.bool true) ∧ Below w.heap.size w w' := by
  have H0 := Lib.hid (new_any35 w)
  go_enter Try.func5, Try.ntmps5
  go_wp2_with (first
    | (go_at_call 6; (with_reducible refine H0.out.mono ?_); rintro e w1 ⟨g, mb, rfl, k1, k2, k3, k4⟩; have L1 := Lib.hid (show LW (fun b => b < w.heap.size) w1 g mb 0 [] ∧ KeepK (fun b => b < w.heap.size) w w1 from ⟨⟨none, k1, fun b hb => ⟨Nat.lt_of_lt_of_le hb k2.size, fun e => Nat.lt_irrefl _ (Nat.lt_of_lt_of_le hb (e ▸ k3)), fun e => Nat.lt_irrefl _ (Nat.lt_of_lt_of_le hb (e ▸ k4)), fun q hq => by cases hq⟩⟩, KeepK.of_below k2 fun b hb => hb⟩); clear k1 k2 k3 k4)
    | (go_at_call 8; (with_reducible refine (lwA1 L1.out.1).mono ?_); rintro e w2 ⟨rfl, k1, k2⟩; have L2 := Lib.hid (And.intro k1 (L1.out.2.trans k2)); clear k1 k2 L1)
    | (go_at_call 8; (with_reducible refine (lwA2 L2.out.1).mono ?_); rintro e w3 ⟨rfl, k1, k2⟩; have L3 := Lib.hid (And.intro k1 (L2.out.2.trans k2)); clear k1 k2 L2)
    | (go_at_call 8; (with_reducible refine (lwA3 L3.out.1).mono ?_); rintro e w4 ⟨rfl, k1, k2⟩; have L4 := Lib.hid (And.intro k1 (L3.out.2.trans k2)); clear k1 k2 L3)
    | (go_at_call 8; (with_reducible refine (lwA4 L4.out.1).mono ?_); rintro e w5 ⟨rfl, k1, k2⟩; have L5 := Lib.hid (And.intro k1 (L4.out.2.trans k2)); clear k1 k2 L4)
    | (go_at_call 14; (with_reducible refine (lwN1 L5.out.1).mono ?_); rintro e w6 ⟨rfl, k1, k2⟩; have L6 := Lib.hid (And.intro k1 (L5.out.2.trans k2)); clear k1 k2 L5)
    | (go_at_call 13; (with_reducible refine (lwP L6.out.1).mono ?_); rintro e w7 ⟨A2, c2, rfl, k0, k1, k2⟩; have L7 := Lib.hid (And.intro k1 (And.intro (L6.out.2.trans k2) k0)); clear k0 k1 k2 L6)
    | (go_at_call 10; (with_reducible refine (lwD1 L7.out.1).mono ?_); rintro e w8 ⟨rfl, k1, k2⟩; have L8 := Lib.hid (And.intro k1 (lw_step L7.out.2 k2)); clear k1 k2 L7)
    | (go_at_call 10; (with_reducible refine (lwD2 L8.out.1).mono ?_); rintro e w9 ⟨rfl, k1, k2⟩; have L9 := Lib.hid (And.intro k1 (lw_step L8.out.2 k2)); clear k1 k2 L8)
    | (go_at_call 14; (with_reducible refine (lwN2 L9.out.1).mono ?_); rintro e w10 ⟨rfl, k1, k2⟩; have L10 := Lib.hid (And.intro k1 (lw_step L9.out.2 k2)); clear k1 k2 L9)
    | (go_at_call 12; (with_reducible refine (same_lives (L10.out.2.2.alloc _) (sl_two35 _ 3 _ _ rfl rfl _ rfl)).mono ?_); rintro e w11 ⟨rfl, k1⟩; have L11 := Lib.hid (L10.out.1.below (((Below.refl _ _).alloc (Nat.le_refl _) _).trans (k1.mono (by simp)))); have L12 := Lib.hid (And.intro L11.out.1 (lw_step L10.out.2 L11.out.2)); clear k1 L10)
    | (go_at_call 16; (with_reducible refine (lwL L12.out.1).mono ?_); rintro e w13 ⟨rfl, k1, k2⟩; have L13 := Lib.hid (And.intro k1 (lw_step L12.out.2 k2)); clear k1 k2 L12))
  go_ret
  exact ⟨rfl, below_of_keep L13.out.2.1⟩
end Go.Proofs.Ytkdijafnakpfhaa
