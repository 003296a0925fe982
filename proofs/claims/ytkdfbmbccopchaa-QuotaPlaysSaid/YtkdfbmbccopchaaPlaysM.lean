/- The two queues side by side, in memory: for the walk of QuotaPlays. Plain. Conditions: none. -/
import Derived.Test.YtkdfbmbccopchaaRef44Q
import Derived.Test.YtkdfbmbccopchaaQF
namespace Go.Proofs.Ytkdfbmbccopchaa
open Go.RowKit Go.Lib

/-- The queue g (what waits: cl), the box bx of the reference's queue (vb lies in it), and the reference's queue itself (behind vq: rs), beside blocks K of the caller's. -/
structure P2 (w wr : World) (g bx rn cn b : Nat) (cl : Cl) (K Q : Nat → Prop) (vb vq : Value) (n : Nat) (rs : Rw) : Prop where
  f : FG w wr g rn cn b cl K
  lo : ∀ i, K i → w.heap.size ≤ i
  hi : ∀ i, K i → i < wr.heap.size
  qk : ∀ i, Q i → K i ∧ i ≠ bx
  kb : K bx
  box : Blk wr bx 40 #[.int .i64 (rn : Int), .int .i64 (cn : Int), vb]
  q : RQ wr Q vq n rs
section
variable {w wr w' : World} {g bx rn cn b n n' : Nat} {cl cl' : Cl} {K Q : Nat → Prop} {vb vq vq' : Value} {rs rs' : Rw}
/-- What the caller makes anew: nothing of old turns. -/
theorem P2.below (h : P2 w wr g bx rn cn b cl K Q vb vq n rs) (hb : Below wr.heap.size wr w') : P2 w w' g bx rn cn b cl (fun i => K i ∨ (wr.heap.size ≤ i ∧ i < w'.heap.size)) Q vb vq n rs := by
  have hbs := h.f.below.size
  refine ⟨(h.f.fresh h.lo (KeepK.of_below hb fun i hi => hi.1)).less fun i hi => ?_, fun i hi => ?_, fun i hi => ?_, fun i hi => ⟨.inl (h.qk i hi).1, (h.qk i hi).2⟩, .inl h.kb, h.box.below hb h.box.lt, h.q.keep (KeepK.of_below hb fun i hi => h.hi i (h.qk i hi).1)⟩
  · rcases hi with hi | hi
    · exact .inl hi
    · exact .inr hi.1
  · rcases hi with hi | hi
    · exact h.lo i hi
    · omega
  · rcases hi with hi | hi
    · exact Nat.lt_of_lt_of_le (h.hi i hi) hb.size
    · exact hi.2
/-- The reference's call: another queue of its own. -/
theorem P2.ref (h : P2 w wr g bx rn cn b cl K Q vb vq n rs) (hb : Below wr.heap.size wr w') (hq : RQ w' (fun i => Q i ∨ wr.heap.size ≤ i) vq' n' rs') :
    P2 w w' g bx rn cn b cl (fun i => K i ∨ (wr.heap.size ≤ i ∧ i < w'.heap.size)) (fun i => Q i ∨ (wr.heap.size ≤ i ∧ i < w'.heap.size)) vb vq' n' rs' := by
  have h1 := h.below hb
  have hx := h.box.lt
  refine ⟨h1.f, h1.lo, h1.hi, fun i hi => ?_, h1.kb, h1.box, ⟨hq.len, hq.s, fun i hi => ?_, fun q hm => ⟨(hq.each q hm).1, fun i hi => ?_⟩⟩⟩
  · rcases hi with hi | hi
    · exact ⟨.inl (h.qk i hi).1, (h.qk i hi).2⟩
    · exact ⟨.inr hi, by omega⟩
  · rcases hq.own i hi with h2 | h2
    · exact .inl h2
    · exact .inr ⟨h2, hq.s.lt i hi⟩
  · rcases (hq.each q hm).2 i hi with h2 | h2
    · exact .inl h2
    · exact .inr ⟨h2, (hq.each q hm).1.lt i hi⟩
/-- The caller writes into a block of its own that is no part of the queues. -/
theorem P2.setCell (h : P2 w wr g bx rn cn b cl K Q vb vq n rs) {p : Addr} (hp : K p.block) (hq : ¬ Q p.block) (hx : p.block ≠ bx) (u : Value) : P2 w (wr.setCell p u) g bx rn cn b cl K Q vb vq n rs := by
  have hsz : (wr.setCell p u).heap.size = wr.heap.size := by simp [World.setCell]
  have hk : KeepK (fun i => i < wr.heap.size ∧ ¬ K i) wr (wr.setCell p u) := (KeepK.refl (fun i => i < wr.heap.size ∧ ¬ K i) wr).setCell (p := p) (fun i hi e => hi.2 (e ▸ hp)) u
  have hkq : KeepK Q wr (wr.setCell p u) := (KeepK.refl Q wr).setCell (p := p) (fun i hi e => hq (e ▸ hi)) u
  exact ⟨(h.f.fresh h.lo hk).less fun i hi => .inl hi, h.lo, fun i hi => by rw [hsz]; exact h.hi i hi, h.qk, h.kb, h.box.far (p := p) (fun e => hx e.symm) u, h.q.keep hkq⟩
/-- The box is laid anew. -/
theorem P2.lay (h : P2 w wr g bx rn cn b cl K Q vb vq n rs) :
    P2 w (((wr.setCell ⟨bx, 0, none⟩ (.int .i64 (rn : Int))).setCell ⟨bx, 1, none⟩ (.int .i64 (cn : Int))).setCell ⟨bx, 2, none⟩ vq) g bx rn cn b cl K Q vq vq n rs := by
  have hsz : (((wr.setCell ⟨bx, 0, none⟩ (.int .i64 (rn : Int))).setCell ⟨bx, 1, none⟩ (.int .i64 (cn : Int))).setCell ⟨bx, 2, none⟩ vq).heap.size = wr.heap.size := by simp [World.setCell]
  have hk : ∀ (M : Nat → Prop), (∀ i, M i → i ≠ bx) → KeepK M wr (((wr.setCell ⟨bx, 0, none⟩ (.int .i64 (rn : Int))).setCell ⟨bx, 1, none⟩ (.int .i64 (cn : Int))).setCell ⟨bx, 2, none⟩ vq) := fun M hM =>
    (((KeepK.refl M wr).setCell (p := ⟨bx, 0, none⟩) hM _).setCell (p := ⟨bx, 1, none⟩) hM _).setCell (p := ⟨bx, 2, none⟩) hM _
  have hb := ((h.box.set_ 0 (.int .i64 (rn : Int))).set_ 1 (.int .i64 (cn : Int))).set_ 2 vq
  exact ⟨(h.f.fresh h.lo (hk _ fun i hi e => hi.2 (e ▸ h.kb))).less fun i hi => .inl hi, h.lo, fun i hi => by rw [hsz]; exact h.hi i hi, h.qk, h.kb, by simpa using hb, h.q.keep (hk _ fun i hi => (h.qk i hi).2)⟩
/-- The queue's own call. -/
theorem P2.turn {b' : Nat} (h : P2 w wr g bx rn cn b cl K Q vb vq n rs) (hf : FG w w' g rn cn b' cl' K) (hk : KeepK (fun i => i < wr.heap.size ∧ (i < w.heap.size ∨ K i)) wr w') : P2 w w' g bx rn cn b' cl' K Q vb vq n rs :=
  ⟨hf, h.lo, fun i hi => Nat.lt_of_lt_of_le (h.hi i hi) hk.size, h.qk, h.kb, h.box.keepK hk ⟨h.box.lt, .inr h.kb⟩, h.q.keep (hk.mono fun i hi => ⟨h.hi i (h.qk i hi).1, .inr (h.qk i hi).1⟩)⟩
theorem P2.drew (h : P2 w wr g bx rn cn b cl K Q vb vq n rs) (hb : Below wr.heap.size wr wr.drew) : P2 w wr.drew g bx rn cn b cl (fun i => K i ∨ (wr.heap.size ≤ i ∧ i < wr.drew.heap.size)) Q vb vq n rs := h.below hb
end
/-- Before the first round. -/
theorem P2.start {w w2 : World} {g rn cn : Nat} (h : FG w w2 g rn cn 0 [] (fun _ => False)) {w3 : World} (hb : Below w2.heap.size w2 w3) {bx : Nat} (hlo : w2.heap.size ≤ bx) (hx : Blk w3 bx 40 #[.int .i64 (rn : Int), .int .i64 (cn : Int), .slice none 0 0]) :
    P2 w w3 g bx rn cn 0 [] (fun i => w2.heap.size ≤ i ∧ i < w3.heap.size) (fun _ => False) (.slice none 0 0) (.slice none 0 0) 0 [] := by
  have hs := h.below.size
  exact ⟨(h.fresh (fun i hi => hi.elim) (KeepK.of_below hb fun i hi => hi.1)).less fun i hi => .inr hi.1, fun i hi => by omega, fun i hi => hi.2, fun i hi => hi.elim, ⟨hlo, hx.lt⟩, hx,
    ⟨rfl, Sl.nil _ _, (fun i hi => by cases hi), (fun q hq => by cases hq)⟩⟩
end Go.Proofs.Ytkdfbmbccopchaa
