/- The wheel's methods over a set of kept blocks, and lives. Conditions: none. -/
import Derived.Test.YtkdijafnakpfhaaWheelX
namespace Go.Proofs.Ytkdijafnakpfhaa
open Go.RowKit Go.Lib

/-- The wheel holds v, apart from the blocks K. -/
def LW (K : Nat → Prop) (w : World) (g mb N : Nat) (v : List Th) : Prop :=
  ∃ A, WV w g mb A N v ∧ ∀ b, K b → b < w.heap.size ∧ b ≠ g ∧ b ≠ mb ∧ ∀ q, A = some q → b ≠ q.block
theorem lw_keep {K : Nat → Prop} {w w' : World} {g mb : Nat} {A : Option Addr} (h : ∀ b, K b → b < w.heap.size ∧ b ≠ g ∧ b ≠ mb ∧ ∀ q, A = some q → b ≠ q.block) (hk : KeepH g mb A w w') : KeepK K w w' := KeepK.mono hk fun b hb => h b hb
theorem LW.add {K : Nat → Prop} {w : World} {g mb N : Nat} {v : List Th} (h : LW K w g mb N v) (x : Th) (hx : x.ok) (hN : N + 1 ≤ 1000) :
    Calls Try.prog 8 #[.pointer (some ⟨g, 0, none⟩), .int .i64 x.id, .int .i64 x.t] w fun e w' => e = .returned (.bool (!hasId v x.id)) ∧ LW K w' g mb (N + 1) (addV v x.id x.t) ∧ KeepK K w w' := by
  obtain ⟨A, h1, h2⟩ := h
  refine (add_any35 h1 x hx hN).mono ?_
  rintro e w' ⟨rfl, A', k1, k2, k3⟩
  refine ⟨rfl, ⟨A', k1, fun b hb => ?_⟩, lw_keep h2 k2⟩
  obtain ⟨a1, a2, a3, a4⟩ := h2 b hb
  refine ⟨Nat.lt_of_lt_of_le a1 k2.size, a2, a3, fun q hq => ?_⟩
  rcases k3 with k | k
  · exact a4 q (k ▸ hq)
  · have := k q hq; omega
theorem LW.keep {K : Nat → Prop} {w w' : World} {g mb N M : Nat} {v v' : List Th} {A : Option Addr} (h2 : ∀ b, K b → b < w.heap.size ∧ b ≠ g ∧ b ≠ mb ∧ ∀ q, A = some q → b ≠ q.block) (k1 : WV w' g mb A M v') (k2 : w.heap.size ≤ w'.heap.size) : LW K w' g mb M v' :=
  ⟨A, k1, fun b hb => ⟨Nat.lt_of_lt_of_le (h2 b hb).1 k2, (h2 b hb).2⟩⟩
theorem LW.drop {K : Nat → Prop} {w : World} {g mb N : Nat} {v : List Th} (h : LW K w g mb N v) (k : Int) (hk : -9223372036854775808 ≤ k ∧ k ≤ 9223372036854775807) :
    Calls Try.prog 10 #[.pointer (some ⟨g, 0, none⟩), .int .i64 k] w fun e w' => e = .returned (.bool (hasId v k)) ∧ LW K w' g mb N (dropV v k) ∧ KeepK K w w' := by
  obtain ⟨A, h1, h2⟩ := h
  refine (drop_any35 h1 k hk).mono ?_
  rintro e w' ⟨rfl, k1, k2⟩
  exact ⟨rfl, LW.keep h2 k1 k2.size (v := v) (N := N), lw_keep h2 k2⟩
theorem LW.below {K : Nat → Prop} {w w' : World} {g mb N : Nat} {v : List Th} (h : LW K w g mb N v) (hb : Below w.heap.size w w') : LW K w' g mb N v ∧ KeepK K w w' := by
  obtain ⟨A, h1, h2⟩ := h
  exact ⟨LW.keep h2 (h1.below hb) hb.size (v := v) (N := N), KeepK.of_below hb fun b hb => (h2 b hb).1⟩
theorem LW.next {K : Nat → Prop} {w : World} {g mb N : Nat} {v : List Th} (h : LW K w g mb N v) :
    Calls Try.prog 14 #[.pointer (some ⟨g, 0, none⟩)] w fun e w' => e = .returned (.tuple #[.int .i64 ((minV v).elim 0 Th.t), .bool (minV v).isSome]) ∧ LW K w' g mb N v ∧ KeepK K w w' := by
  have h0 := h
  obtain ⟨A, h1, h2⟩ := h
  refine (next_any35 h1).mono ?_
  rintro e w' ⟨rfl, k1⟩
  exact ⟨rfl, h0.below k1⟩
theorem LW.len {K : Nat → Prop} {w : World} {g mb N : Nat} {v : List Th} (h : LW K w g mb N v) :
    Calls Try.prog 16 #[.pointer (some ⟨g, 0, none⟩)] w fun e w' => e = .returned (.int .i64 (v.length : Int)) ∧ LW K w' g mb N v ∧ KeepK K w w' := by
  have h0 := h
  obtain ⟨A, h1, h2⟩ := h
  refine (len_any35 h1).mono ?_
  rintro e w' ⟨rfl, k1⟩
  exact ⟨rfl, h0.below k1⟩
/-- Blocks made since w, beside those that were kept. -/
theorem LW.more {K : Nat → Prop} {w w' : World} {g mb N : Nat} {v : List Th} {o : Option Nat} (h : LW K w g mb N v) (hb : Below w.heap.size w w') (ho : ∀ p, o = some p → w.heap.size ≤ p ∧ p < w'.heap.size) : LW (fun b => K b ∨ o = some b) w' g mb N v := by
  obtain ⟨A, h1, h2⟩ := h
  have L := h1.lt
  refine ⟨A, h1.below hb, fun b hb' => ?_⟩
  rcases hb' with hb' | hb'
  · exact ⟨Nat.lt_of_lt_of_le (h2 b hb').1 hb.size, (h2 b hb').2⟩
  · have := ho b hb'
    exact ⟨this.2, by omega, by omega, fun q hq => by have := (L.2.2 q hq).1; omega⟩
theorem LW.less {K K' : Nat → Prop} {w : World} {g mb N : Nat} {v : List Th} (h : LW K w g mb N v) (hk : ∀ b, K' b → K b) : LW K' w g mb N v := by
  obtain ⟨A, h1, h2⟩ := h
  exact ⟨A, h1, fun b hb => h2 b (hk b hb)⟩
theorem LW.pop {K : Nat → Prop} {w : World} {g mb N : Nat} {v : List Th} (h : LW K w g mb N v) (now : Int) :
    Calls Try.prog 13 #[.pointer (some ⟨g, 0, none⟩), .int .i64 now] w fun e w' => ∃ A2 c2, e = .returned (.slice A2 (popV v.length v now).1.length c2) ∧ Sl w' 1 (.slice A2 (popV v.length v now).1.length c2) (popV v.length v now).1.length ((popV v.length v now).1.map idV) ∧ LW (fun b => K b ∨ (Value.slice A2 (popV v.length v now).1.length c2).ownBlock = some b) w' g mb N (popV v.length v now).2 ∧ KeepK K w w' := by
  obtain ⟨A, h1, h2⟩ := h
  refine (pop_any35 h1 now).mono ?_
  rintro e w' ⟨A2, c2, rfl, k1, k2, k3, k4⟩
  have L := h1.lt
  refine ⟨A2, c2, rfl, k1, ⟨A, k3, fun b hb => ?_⟩, lw_keep h2 k4⟩
  rcases hb with hb | hb
  · exact ⟨Nat.lt_of_lt_of_le (h2 b hb).1 k4.size, (h2 b hb).2⟩
  · have := k2 b hb
    exact ⟨k1.lt b hb, by omega, by omega, fun q hq => by have := (L.2.2 q hq).1; omega⟩
end Go.Proofs.Ytkdijafnakpfhaa
