/- What stands in the round of WheelPlays. Conditions: none. -/
import Derived.Test.YtkdijafnakpfhaaWheelV
import Derived.Test.YtkdijafnakpfhaaOpenW35
namespace Go.Proofs.Ytkdijafnakpfhaa
open Go.RowKit Go.Lib

theorem LW.list {K : Nat → Prop} {w w' : World} {g mb N : Nat} {v : List Th} {o o' : Option Nat} (h : LW (fun b => K b ∨ o = some b) w g mb N v) (hb : Below w.heap.size w w') (hc : ∀ p, o' = some p → o = some p ∨ w.heap.size ≤ p) (hl : ∀ p, o' = some p → p < w'.heap.size) :
    LW (fun b => K b ∨ o' = some b) w' g mb N v := by
  obtain ⟨A, h1, h2⟩ := h
  have L := h1.lt
  refine ⟨A, h1.below hb, fun b hb' => ?_⟩
  rcases hb' with hb' | hb'
  · have := h2 b (.inl hb')
    exact ⟨Nat.lt_of_lt_of_le this.1 hb.size, this.2⟩
  · rcases hc b hb' with hc | hc
    · have := h2 b (.inr hc)
      exact ⟨Nat.lt_of_lt_of_le this.1 hb.size, this.2⟩
    · exact ⟨hl b hb', by omega, by omega, fun q hq => by have := (L.2.2 q hq).1; omega⟩
/-- The wheel and the document's list, side by side. -/
structure WI (K : Nat → Prop) (w : World) (g mb N : Nat) (v l : List Th) (A : Option Addr) (c : Nat) : Prop where
  lw : LW (fun b => K b ∨ (Value.slice A l.length c).ownBlock = some b) w g mb N v
  ts : TS w A c l
theorem WI.below {K : Nat → Prop} {w w' : World} {g mb N : Nat} {v l : List Th} {A : Option Addr} {c : Nat} (h : WI K w g mb N v l A c) (hb : Below w.heap.size w w') : WI K w' g mb N v l A c :=
  ⟨(h.lw.below hb).1, h.ts.below hb⟩
theorem WI.list {K : Nat → Prop} {w w' : World} {g mb N : Nat} {v l l' : List Th} {A A' : Option Addr} {c c' : Nat} (h : WI K w g mb N v l A c) (hb : Below w.heap.size w w') (ht : TS w' A' c' l')
    (hc : ∀ p, (Value.slice A' l'.length c').ownBlock = some p → (Value.slice A l.length c).ownBlock = some p ∨ w.heap.size ≤ p) : WI K w' g mb N v l' A' c' :=
  ⟨h.lw.list hb hc ht.lt, ht⟩
theorem WI.turn {K : Nat → Prop} {w w' : World} {g mb N M : Nat} {v v' l : List Th} {A : Option Addr} {c : Nat} (h : WI K w g mb N v l A c) (h1 : LW (fun b => K b ∨ (Value.slice A l.length c).ownBlock = some b) w' g mb M v') (hk : KeepK (fun b => K b ∨ (Value.slice A l.length c).ownBlock = some b) w w') :
    WI K w' g mb M v' l A c ∧ KeepK K w w' :=
  ⟨⟨h1, Sl.keepK h.ts hk fun g hg => .inr hg⟩, KeepK.mono hk fun b hb => .inl hb⟩
/-- The document's Pop leaves a new list and an answer beside it. -/
theorem WI.pop {K : Nat → Prop} {w w' : World} {g mb N : Nat} {v l l' : List Th} {A A' : Option Addr} {c c' : Nat} {o : Option Nat} (h : WI K w g mb N v l A c) (hb : Below w.heap.size w w') (ht : TS w' A' c' l')
    (hc : ∀ p, (Value.slice A' l'.length c').ownBlock = some p → (Value.slice A l.length c).ownBlock = some p ∨ w.heap.size ≤ p) (ho : ∀ p, o = some p → w.heap.size ≤ p ∧ p < w'.heap.size) : WI (fun b => K b ∨ o = some b) w' g mb N v l' A' c' := by
  refine ⟨?_, ht⟩
  have h1 := h.lw.list hb hc ht.lt
  obtain ⟨B, q1, q2⟩ := h.lw
  have L := q1.lt
  obtain ⟨A0, q3, q4⟩ := h1
  refine ⟨B, q1.below hb, fun b hb' => ?_⟩
  rcases hb' with (hb' | hb') | hb'
  · have := q2 b (.inl hb')
    exact ⟨Nat.lt_of_lt_of_le this.1 hb.size, this.2⟩
  · have := ho b hb'
    exact ⟨this.2, by omega, by omega, fun q hq => by have := (L.2.2 q hq).1; omega⟩
  · rcases hc b hb' with hc | hc
    · have := q2 b (.inr hc)
      exact ⟨Nat.lt_of_lt_of_le this.1 hb.size, this.2⟩
    · exact ⟨ht.lt b hb', by omega, by omega, fun q hq => by have := (L.2.2 q hq).1; omega⟩
end Go.Proofs.Ytkdijafnakpfhaa
