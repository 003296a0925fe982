/- The walk of message.sections, as an iterator over the three lists of a message's box. Conditions: none. The walk of message.Read. Conditions: none. -/
import Derived.Test.YtgfpnkakglgokaaMsgM
import Derived.Test.YtgfpnkakglgokaaRangeM
import Derived.RangeFuncNested
import Derived.RangeFuncBound
import Derived.RangeFuncCalls
import Derived.RangeFuncLeaves
import Derived.RangeFuncBox
import Derived.RangeFuncFrom
import Derived.Shelf.Abstract
import Derived.Shelf.RegionOpen
import Derived.Shelf.AbstractIn
import Derived.TacticsInMore
import Derived.LoopNIn
import Derived.LoopIn
import Derived.Sort.LoopGhostIn
import Derived.Sort.QuietIn
import Derived.Stop.RegionWithIn
import Derived.Deep.LoopGhost
import Derived.Test.YtgfpnkakglgokaaRegC
import Derived.Deep.CutBlock
import Derived.Deep.DeepCutAuto
import Derived.Deep.DeepMust
namespace Go.Proofs.Ytgfpnkakglgokaa
open Go.RowKit Go.Shelf
attribute [local go_sem] Oper.semAt_some

theorem sections_in (n : Nat) (mb : Nat) (w : World) :
    CallsIn Fence.wide n Try.prog 25 #[.pointer (some ⟨mb, 0, none⟩)] w fun e w' => e = .returned (.func (.func 51) #[] #[.pointer (some ⟨w.heap.size, 0, none⟩)]) ∧ w' = w.alloc (.cells #[.pointer (some ⟨mb, 0, none⟩)] 82) := by
  refine callsIn_of_wp Try.func25 rfl trivial ?_ rfl
  simp only [Try.ntmps25, List.size_toArray, List.length_cons, List.length_nil, Nat.reduceAdd, Nat.reduceSub, Array.replicate_succ, Array.replicate_zero, List.push_toArray, List.append_toArray, List.nil_append, List.cons_append]
  gi_wp2
  go_ret
  exact ⟨rfl, rfl⟩

set_option maxRecDepth 100000 in
set_option maxHeartbeats 2000000 in
theorem sections1_M (Bs mb : Nat) (w : World) (hc : Blk w Bs 82 #[.pointer (some ⟨mb, 0, none⟩)]) :
    SeqM Try.prog 51 #[.pointer (some ⟨Bs, 0, none⟩)] (fun k : Nat => #[Value.pointer (some ⟨mb, k, none⟩)]) Bs (Bs + 1) [3, 4, 5] w := by
  intro m l J Jx W hW hJ hJx hY h0
  obtain ⟨n, hn⟩ : ∃ n : Nat, 8 ≤ n := ⟨8, by omega⟩
  refine callsIn_wide.2 ((callsIn_wide (n := n)).1 ?_)
  have h1n : 1 ≤ n := by omega
  have hBs : Bs < w.heap.size := hc.lt
  have hws := hW.size
  have bs : Blk W Bs 82 #[.pointer (some ⟨mb, 0, none⟩)] := hc.below hW hBs
  obtain ⟨X, hX⟩ : ∃ X, W.heap.size = X := ⟨_, rfl⟩
  have hJ0 := h0 X W (Below.refl _ _) hX
  have c0 : W.cell? ⟨Bs, 0, none⟩ = some (.pointer (some ⟨mb, 0, none⟩)) := bs.cell 0
  have hy0 := hY X [] 3 W hJ0 ⟨[4, 5], rfl⟩
  obtain ⟨fn, tmps, assign, body, hy, hRR⟩ := yield_deep (m := n - 1) hy0
  have hR1 := hRR.mono (R' := fun e W' => ∃ b, e = .returned (.bool b) ∧ ((b = true ∧ J X [3] W' ∧ KeepX W.heap.size X Bs (Bs + 1) W W') ∨ (b = false ∧ Jx X [3] W'))) (by
    rintro e W' (⟨rfl, h1, h2⟩ | ⟨rfl, h1, _⟩)
    · exact ⟨true, rfl, .inl ⟨rfl, h1, h2⟩⟩
    · exact ⟨false, rfl, .inr ⟨rfl, h1⟩⟩)
  have HY := Lib.hid hR1
  have HB := Lib.hid (And.intro bs hY)
  clear hc hJ0 hy0 hRR hR1 h0 bs hY
  refine callsIn_of_wp Try.func51 rfl trivial ?_ rfl
  simp only [Try.ntmps51, List.size_toArray, List.length_cons, List.length_nil, Nat.reduceAdd, Nat.reduceSub, Array.replicate_succ, Array.replicate_zero, List.push_toArray, List.append_toArray, List.nil_append, List.cons_append]
  gi_wp2_with (fail)
  refine HY.out.mono ?_
  rintro r v1 ⟨b, rfl, hd⟩
  rcases hd with ⟨rfl, hJ1, hK1⟩ | ⟨rfl, hJx1⟩
  · have bs1 : Blk v1 Bs 82 #[.pointer (some ⟨mb, 0, none⟩)] := (hK1.same _ (by have := HB.out.1.lt; exact this) (.inr ⟨Nat.le_refl _, by omega⟩)).trans HB.out.1
    have c1 : v1.cell? ⟨Bs, 0, none⟩ = some (.pointer (some ⟨mb, 0, none⟩)) := bs1.cell 0
    have hy1 := HB.out.2 X [3] 4 v1 hJ1 ⟨[5], rfl⟩
    obtain ⟨fn1, tmps1, assign1, body1, hy1', hRR⟩ := yield_deep (m := n - 1) hy1
    have hR1 := hRR.mono (R' := fun e W' => ∃ b, e = .returned (.bool b) ∧ ((b = true ∧ J X [3, 4] W' ∧ KeepX W.heap.size X Bs (Bs + 1) v1 W') ∨ (b = false ∧ Jx X [3, 4] W'))) (by
      rintro e W' (⟨rfl, h1, h2⟩ | ⟨rfl, h1, _⟩)
      · exact ⟨true, rfl, .inl ⟨rfl, h1, h2⟩⟩
      · exact ⟨false, rfl, .inr ⟨rfl, h1⟩⟩)
    have HY1 := Lib.hid hR1
    have HB1 := Lib.hid bs1
    have hsz1 := hK1.size
    clear HY hJ1 hK1 bs1 c0 hy hy1 hRR hR1
    gi_wp2_with (fail)
    refine HY1.out.mono ?_
    rintro r v2 ⟨b, rfl, hd⟩
    rcases hd with ⟨rfl, hJ1, hK1⟩ | ⟨rfl, hJx1⟩
    · have bs1 : Blk v2 Bs 82 #[.pointer (some ⟨mb, 0, none⟩)] := (hK1.same _ (by have := HB1.out.lt; exact this) (.inr ⟨Nat.le_refl _, by omega⟩)).trans HB1.out
      have c2 : v2.cell? ⟨Bs, 0, none⟩ = some (.pointer (some ⟨mb, 0, none⟩)) := bs1.cell 0
      have hy1 := HB.out.2 X [3, 4] 5 v2 hJ1 ⟨[], rfl⟩
      obtain ⟨fn2, tmps2, assign2, body2, hy2', hRR⟩ := yield_deep (m := n - 1) hy1
      have hR1 := hRR.mono (R' := fun e W' => ∃ b, e = .returned (.bool b) ∧ ((b = true ∧ J X [3, 4, 5] W') ∨ (b = false ∧ Jx X [3, 4, 5] W'))) (by
        rintro e W' (⟨rfl, h1, h2⟩ | ⟨rfl, h1, _⟩)
        · exact ⟨true, rfl, .inl ⟨rfl, h1⟩⟩
        · exact ⟨false, rfl, .inr ⟨rfl, h1⟩⟩)
      have HY2 := Lib.hid hR1
      clear HY1 hJ1 hK1 bs1 c1 hy1' hy1 hRR hR1
      gi_wp2_with (fail)
      refine HY2.out.mono ?_
      rintro r v3 ⟨b, rfl, hd⟩
      have HD := Lib.hid hd
      clear hd
      gi_wp2_with (fail)
      refine bodyPost_end (results_none rfl _ _ _) rfl ?_
      rcases HD.out with ⟨_, hJ1⟩ | ⟨_, hJx1⟩
      · exact ⟨⟨_, rfl⟩, _, .inl hJ1⟩
      · exact ⟨⟨_, rfl⟩, _, .inr ⟨_, List.prefix_refl _, hJx1⟩⟩
    · have HD := Lib.hid hJx1
      clear hJx1
      gi_wp2_with (fail)
      refine ⟨fun f hf => (by cases hf), ?_⟩
      gi_wp2_with (fail)
      refine bodyPost_end (results_none rfl _ _ _) rfl ?_
      exact ⟨⟨_, rfl⟩, _, .inr ⟨_, ⟨[5], rfl⟩, HD.out⟩⟩
  · have HD := Lib.hid hJx1
    clear hJx1
    gi_wp2_with (fail)
    refine ⟨fun f hf => (by cases hf), ?_⟩
    gi_wp2_with (fail)
    refine bodyPost_end (results_none rfl _ _ _) rfl ?_
    exact ⟨⟨_, rfl⟩, _, .inr ⟨_, ⟨[4, 5], rfl⟩, HD.out⟩⟩
end Go.Proofs.Ytgfpnkakglgokaa

namespace Go.Proofs.Ytgfpnkakglgokaa
open Go.RowKit Go.Shelf Go.Lib
attribute [local go_sem] Oper.semAt_some

/-- While a message is read: the results' boxes, the reader and its box, the numbers ahead. -/
structure MS (w : World) (s : ByteArray) (rb pb hb k : Nat) (st : Nat × Bool) (V : World) : Prop where
  b : Below w.heap.size w V
  r0 : Blk V w.heap.size 35 #[.int .u16 0, .int .u16 0, .slice none 0 0, .slice none 0 0, .slice none 0 0, .slice none 0 0]
  r1 : Blk V (w.heap.size + 1) 28 #[.int .i64 0]
  rd : Rd V rb s st.1 st.2
  pp : Blk V pb 94 #[.pointer (some ⟨rb, 0, none⟩)]
  hd : Blk V hb 75 (headC s.data.toList k)
  at_ : st.1 ≤ s.size
  o : w.heap.size + 2 ≤ rb ∧ rb < pb ∧ pb < hb ∧ hb < V.heap.size
theorem MS.turn {w : World} {s : ByteArray} {rb pb hb k : Nat} {st st' : Nat × Bool} {V V' : World} (h : MS w s rb pb hb k st V) (hr : Rd V' rb s st'.1 st'.2) (hk : But rb V V') (ha : st'.1 ≤ s.size) : MS w s rb pb hb k st' V' := by
  have ho := h.o
  have hz := hk.size
  exact ⟨h.b.trans (But.below hk (by omega) (h.b.size)), hk.blk h.r0 (by omega), hk.blk h.r1 (by omega), hr, hk.blk h.pp (by omega), hk.blk h.hd (by omega), ha, by omega⟩
theorem MS.below {w : World} {s : ByteArray} {rb pb hb k : Nat} {st : Nat × Bool} {V V' : World} (h : MS w s rb pb hb k st V) (hb' : Below V.heap.size V V') : MS w s rb pb hb k st V' :=
  ⟨h.b.trans (hb'.mono h.b.size), h.r0.below hb' h.r0.lt, h.r1.below hb' h.r1.lt, Blk.below h.rd hb' (Blk.lt h.rd), h.pp.below hb' h.pp.lt, h.hd.below hb' h.hd.lt, h.at_, by have := h.o; have := hb'.size; omega⟩

/-- The results, written. -/
theorem MS.done {w : World} {s : ByteArray} {rb pb hb k : Nat} {st : Nat × Bool} {V : World} (h : MS w s rb pb hb k st V) (v0 v1 v2 v3 v4 v5 u : Value) :
    Blk (((((((V.setCell ⟨w.heap.size, 0, none⟩ v0).setCell ⟨w.heap.size, 1, none⟩ v1).setCell ⟨w.heap.size, 2, none⟩ v2).setCell ⟨w.heap.size, 3, none⟩ v3).setCell ⟨w.heap.size, 4, none⟩ v4).setCell ⟨w.heap.size, 5, none⟩ v5).setCell ⟨w.heap.size + 1, 0, none⟩ u) w.heap.size 35 #[v0, v1, v2, v3, v4, v5] ∧
    Blk (((((((V.setCell ⟨w.heap.size, 0, none⟩ v0).setCell ⟨w.heap.size, 1, none⟩ v1).setCell ⟨w.heap.size, 2, none⟩ v2).setCell ⟨w.heap.size, 3, none⟩ v3).setCell ⟨w.heap.size, 4, none⟩ v4).setCell ⟨w.heap.size, 5, none⟩ v5).setCell ⟨w.heap.size + 1, 0, none⟩ u) (w.heap.size + 1) 28 #[u] ∧
    Below w.heap.size w (((((((V.setCell ⟨w.heap.size, 0, none⟩ v0).setCell ⟨w.heap.size, 1, none⟩ v1).setCell ⟨w.heap.size, 2, none⟩ v2).setCell ⟨w.heap.size, 3, none⟩ v3).setCell ⟨w.heap.size, 4, none⟩ v4).setCell ⟨w.heap.size, 5, none⟩ v5).setCell ⟨w.heap.size + 1, 0, none⟩ u) ∧
    KeepK (fun i => i ≠ w.heap.size ∧ i ≠ w.heap.size + 1) V (((((((V.setCell ⟨w.heap.size, 0, none⟩ v0).setCell ⟨w.heap.size, 1, none⟩ v1).setCell ⟨w.heap.size, 2, none⟩ v2).setCell ⟨w.heap.size, 3, none⟩ v3).setCell ⟨w.heap.size, 4, none⟩ v4).setCell ⟨w.heap.size, 5, none⟩ v5).setCell ⟨w.heap.size + 1, 0, none⟩ u) := by
  have k2 := keep_msg (K := fun i => i ≠ w.heap.size) V (g := w.heap.size) (fun i hi => hi) v0 v1 v2 v3 v4 v5
  have k1 := keep_msg (K := fun i => i ≠ w.heap.size ∧ i ≠ w.heap.size + 1) V (g := w.heap.size) (fun i hi => hi.1) v0 v1 v2 v3 v4 v5
  have k0 := keep_msg (K := fun i => i < w.heap.size) V (g := w.heap.size) (fun i hi => by omega) v0 v1 v2 v3 v4 v5
  refine ⟨(h.r0.msg v0 v1 v2 v3 v4 v5).far (by show w.heap.size ≠ w.heap.size + 1; omega) u, ?_, ((KeepK.of_below (K := fun i => i < w.heap.size) h.b fun i hi => hi).trans (k0.setCell (p := ⟨w.heap.size + 1, 0, none⟩) (fun i hi => by show i ≠ w.heap.size + 1; omega) u)).below fun i hi => hi, k1.setCell (p := ⟨w.heap.size + 1, 0, none⟩) (fun i hi => hi.2) u⟩
  have hb := (h.r1.keepK k2 (by omega)).set_ 0 u
  simpa using hb
theorem num_head {l : Bs} {k : Nat} (hk : k < 6) (hl : 12 ≤ l.length) : numM l (2 * k, false) 2 = (headN l k, (2 * (k + 1), false)) := by
  unfold numM headN
  dsimp only
  rw [if_neg (by decide), if_pos (by omega)]
  rfl
theorem MS.head {w : World} {s : ByteArray} {rb pb hb k : Nat} {st : Nat × Bool} {V : World} (h : MS w s rb pb hb k st V) (hk : k < 6) : MS w s rb pb hb (k + 1) st (V.setCell ⟨hb, k, none⟩ (.int .i64 (headN s.data.toList k : Int))) := by
  have ho := h.o
  refine ⟨h.b.setCell (by show w.heap.size ≤ hb; omega) _, h.r0.far (by show w.heap.size ≠ hb; omega) _, h.r1.far (by show w.heap.size + 1 ≠ hb; omega) _, Blk.far h.rd (by show rb ≠ hb; omega) _, h.pp.far (by show pb ≠ hb; omega) _, ?_, h.at_, by simp [World.setCell]; omega⟩
  have := h.hd.set_ k (.int .i64 (headN s.data.toList k : Int))
  rw [headC_set _ hk] at this
  exact this
/-- While questions are read. -/
structure AskS (w : World) (s : ByteArray) (rb pb mb : Nat) (qs : List QRec) (p : Nat) (A : Option Addr) (c : Nat) (V : World) : Prop where
  ms : MS w s rb pb (pb + 1) 6 (p, false) V
  bx : Blk V mb 35 #[.int .u16 (headN s.data.toList 0 : Int), .int .u16 (headN s.data.toList 1 : Int), .slice A qs.length c, .slice none 0 0, .slice none 0 0, .slice none 0 0]
  sl : Sl V 3 (.slice A qs.length c) qs.length (flatV QRec.vs qs)
  own : ∀ g, (Value.slice A qs.length c).ownBlock = some g → mb < g
  ask : AskR s.data.toList qs p
  o : pb + 1 < mb
/-- .. the reader stands anywhere. -/
structure AskT (w : World) (s : ByteArray) (rb pb mb : Nat) (qs : List QRec) (p : Nat) (st : Nat × Bool) (A : Option Addr) (c : Nat) (V : World) : Prop where
  ms : MS w s rb pb (pb + 1) 6 st V
  bx : Blk V mb 35 #[.int .u16 (headN s.data.toList 0 : Int), .int .u16 (headN s.data.toList 1 : Int), .slice A qs.length c, .slice none 0 0, .slice none 0 0, .slice none 0 0]
  sl : Sl V 3 (.slice A qs.length c) qs.length (flatV QRec.vs qs)
  own : ∀ g, (Value.slice A qs.length c).ownBlock = some g → mb < g
  ask : AskR s.data.toList qs p
  o : pb + 1 < mb
theorem AskT.turn {w : World} {s : ByteArray} {rb pb mb : Nat} {qs : List QRec} {p : Nat} {st st' : Nat × Bool} {A : Option Addr} {c : Nat} {V V' : World} (h : AskT w s rb pb mb qs p st A c V) (hr : Rd V' rb s st'.1 st'.2) (hk : But rb V V') (ha : st'.1 ≤ s.size) : AskT w s rb pb mb qs p st' A c V' := by
  have ho := h.ms.o
  have ho2 := h.o
  exact ⟨h.ms.turn hr hk ha, hk.blk h.bx (by omega), h.sl.keepK hk (fun g hg => ⟨h.sl.lt g hg, by have := h.own g hg; omega⟩), h.own, h.ask, h.o⟩
theorem AskS.turn {w : World} {s : ByteArray} {rb pb mb : Nat} {qs : List QRec} {p : Nat} {st' : Nat × Bool} {A : Option Addr} {c : Nat} {V V' : World} (h : AskS w s rb pb mb qs p A c V) (hr : Rd V' rb s st'.1 st'.2) (hk : But rb V V') (ha : st'.1 ≤ s.size) : AskT w s rb pb mb qs p st' A c V' :=
  AskT.turn ⟨h.ms, h.bx, h.sl, h.own, h.ask, h.o⟩ hr hk ha
theorem src_threeQ {P : Program} {tx e' : TypeId} (hk : P.underlying tx = some (.slice e')) (w : World) (t : TypeId) (a b c : Value) (h1 : a.oneCell' = true) (h2 : b.oneCell' = true) (h3 : c.oneCell' = true) :
    Src P 3 tx (.slice (some ⟨w.heap.size, 0, none⟩) 1 1) 1 [a, b, c] (w.alloc (.cells #[a, b, c] t)) :=
  Src.ofSlice _ hk ⟨w.heap.size, 0, none⟩ 1 1 _ rfl (fun j x hx => by
    rw [add_lit', Nat.zero_add, World.cell?_alloc_new]
    rw [← hx]
    simp) (fun u hu => by
    simp only [List.mem_cons, List.not_mem_nil, or_false] at hu
    rcases hu with rfl | rfl | rfl <;> assumption)
theorem AskT.push {w : World} {s : ByteArray} {rb pb mb : Nat} {qs : List QRec} {p p' k : Nat} {A : Option Addr} {c : Nat} {V w3 : World} {x : QRec} {A3 : Option Addr} {c3 : Nat} (h : AskT w s rb pb mb qs p (p', false) A c V) (hk : qs.length = k) (hst : askStep s.data.toList p = some (x, p'))
    (hs : Sl w3 3 (.slice A3 (k + 1) c3) (k + 1) (flatV QRec.vs qs ++ [.string x.n, .int .u16 x.t, .int .u16 x.c])) (hg : (V.alloc (.cells #[.string x.n, .int .u16 x.t, .int .u16 x.c] 49)).grownBy w3 (Value.slice A k c).ownBlock)
    (hv : (Value.slice A3 (k + 1) c3).ownBlock = (Value.slice A k c).ownBlock ∨ (Value.slice A3 (k + 1) c3).ownBlock = some (V.alloc (.cells #[.string x.n, .int .u16 x.t, .int .u16 x.c] 49)).heap.size) :
    AskS w s rb pb mb (qs ++ [x]) p' A3 c3 (w3.setCell ⟨mb, 2, none⟩ (.slice A3 (k + 1) c3)) := by
  have ho := h.ms.o
  have ho2 := h.o
  have hown : ∀ g, (Value.slice A k c).ownBlock = some g → mb < g := by have := h.own; rw [hk] at this; exact this
  have hlt := h.bx.lt
  have hsz := hg.size
  rw [World.size_alloc] at hsz
  have hK : KeepK (fun i => i < V.heap.size ∧ i ≤ mb) V w3 := ((KeepK.refl _ V).alloc (fun i hi => hi.1) _).grown hg (fun i hi => by rw [World.size_alloc]; have := hi.1; omega) (fun i hi e => by have := hown i e.symm; have := hi.2; omega)
  have hK2 : KeepK (fun i => i < V.heap.size ∧ i < mb) V (w3.setCell ⟨mb, 2, none⟩ (.slice A3 (k + 1) c3)) := (hK.mono fun i hi => ⟨hi.1, Nat.le_of_lt hi.2⟩).setCell (p := ⟨mb, 2, none⟩) (fun i hi => by have := hi.2; show i ≠ mb; omega) _
  have hl : (qs ++ [x]).length = k + 1 := by rw [List.length_append, hk]; rfl
  have hm := (h.bx.keepK hK ⟨hlt, Nat.le_refl _⟩).set_ 2 (.slice A3 (k + 1) c3)
  have ho3 : ∀ g, (Value.slice A3 (k + 1) c3).ownBlock = some g → mb < g := fun g hgg => by
    rcases hv with e | e
    · exact hown g (e.symm.trans hgg)
    · have := e.symm.trans hgg
      rw [World.size_alloc] at this
      injection this with this
      omega
  refine ⟨⟨h.ms.b.trans (hK2.below fun i hi => ⟨by have := h.ms.b.size; omega, by omega⟩), h.ms.r0.keepK hK2 ⟨h.ms.r0.lt, by omega⟩, h.ms.r1.keepK hK2 ⟨h.ms.r1.lt, by omega⟩, Blk.keepK h.ms.rd hK2 ⟨Blk.lt h.ms.rd, by omega⟩, h.ms.pp.keepK hK2 ⟨h.ms.pp.lt, by omega⟩, h.ms.hd.keepK hK2 ⟨h.ms.hd.lt, by omega⟩, h.ms.at_, by have := hK2.size; omega⟩, ?_, ?_, ?_, .snoc h.ask hst, h.o⟩
  · rw [hl]
    simpa using hm
  · rw [hl, flatV_append, flatV_one]
    exact hs.far (p := ⟨mb, 2, none⟩) (fun g hgg => by have := ho3 g hgg; show g ≠ mb; omega) _
  · rw [hl]
    exact ho3
theorem stepIn_append_sl {P : Program} {w : World} {F : Fence} {n' : Nat} {ops : Array Oper} {o : Oper} {a : Act} {K : Act → World → Prop} {Q : Exit → Act → World → Prop} {E : Prop} (hgd : o.guard = none) (s x : Operand) (t tx : TypeId)
    (ho : o.op = .call { callee := .builtin .append, args := #[s, x], argTypes := #[t, tx] })
    (e : TypeId) (i : TypeInfo) (z : Value) (size bytes : Nat) (ht : P.underlying t = some (.slice e)) (hi : P.info? e = some i) (hz : i.zero = some z)
    (hsize : i.size = size) (hby : i.bytes = bytes) (hzs : z.cells.size = size)
    (v : Value) (n : Nat) (xs : List Value) (hs : a.eval s = v) (hown : Sl w size v n xs) (y : Value) (hx : a.eval x = y) (m : Nat) (news : List Value) (hsrc : Src P size tx y m news w)
    (h63 : n + m ≤ maxLen) (hbytes : (n + m) * bytes ≤ 140737488355328)
    (h : ∀ v' w', Sl w' size v' (n + m) (xs ++ news) → w.grownBy w' v.ownBlock → (v'.ownBlock = v.ownBlock ∨ v'.ownBlock = some w.heap.size) → K (a.put o.dst v') w') :
    if Region.wanted o (yielded ops a.tmps) = true then Oper.wpIn F n' P o a w K Q else E := by
  have hw : Region.wanted o (yielded ops a.tmps) = true := by simp [Region.wanted, hgd]
  rw [if_pos hw]
  obtain ⟨v', w', hrun, h2, h3, h4⟩ := run_append_sl (P := P) w t tx o.type e i z size bytes ht hi hz hsize hby hzs v n xs hown y m news hsrc h63 hbytes
  unfold Oper.wpIn
  refine ⟨?_, ?_⟩
  · simp [Oper.about, ho, resolve, Target.leads, Sem.run_pure]
  · rw [Oper.semAt_plain F _ _ (by rw [ho]; intro c hc'; cases hc')]
    simp [execOp, ho, resolve, invoke, builtin, hs, hx, hrun, Result.andThen]
    exact h v' w' h2 h3 h4
theorem MS.keepK {K : Nat → Prop} {w : World} {s : ByteArray} {rb pb hb k : Nat} {st : Nat × Bool} {V V' : World} (h : MS w s rb pb hb k st V) (hk : KeepK K V V') (hK : ∀ i, i ≤ hb → K i) : MS w s rb pb hb k st V' := by
  have ho := h.o
  exact ⟨h.b.trans (hk.below fun i hi => hK i (by omega)), h.r0.keepK hk (hK _ (by omega)), h.r1.keepK hk (hK _ (by omega)), Blk.keepK h.rd hk (hK _ (by omega)), h.pp.keepK hk (hK _ (by omega)), h.hd.keepK hk (hK _ (by omega)), h.at_, by have := hk.size; omega⟩
def updF {α : Type} (F : Nat → α) (x : Nat) (v : α) : Nat → α := fun i => if i = x then v else F i
/-- How many records of each section have been read. -/
def secN (l : Bs) (j t i : Nat) : Nat := if i < 3 + j then headN l i else if i = 3 + j then t else 0
theorem secN_next (l : Bs) (j i : Nat) : secN l j (headN l (3 + j)) i = secN l (j + 1) 0 i := by
  unfold secN
  by_cases h1 : i < 3 + j
  · rw [if_pos h1, if_pos (by omega)]
  · rw [if_neg h1]
    by_cases h2 : i = 3 + j
    · rw [if_pos h2, if_pos (by omega), h2]
    · rw [if_neg h2, if_neg (by omega)]
      split <;> rfl
/-- A list of records in memory of its own, from X on. -/
structure RecL (V : World) (X : Nat) (f : LRec) : Prop where
  sl : Sl V 5 f.v f.xs.length (flatV RRec.vs f.xs)
  own : ∀ g, f.v.ownBlock = some g → X ≤ g
  ok : ∀ r ∈ f.xs, r.ok ∧ r.d.size ≤ 1000000
/-- While records are read. -/
structure SecS (w : World) (s : ByteArray) (rb pb mb ab : Nat) (qs : List QRec) (p : Nat) (A : Option Addr) (c : Nat) (X j t : Nat) (F : Nat → LRec) (a : Int) (st : Nat × Bool) (V : World) : Prop where
  ms : MS w s rb pb (pb + 1) 6 st V
  bx : Blk V mb 35 #[.int .u16 (headN s.data.toList 0 : Int), .int .u16 (headN s.data.toList 1 : Int), .slice A qs.length c, (F 3).v, (F 4).v, (F 5).v]
  sq : Sl V 3 (.slice A qs.length c) qs.length (flatV QRec.vs qs)
  oq : ∀ g, (Value.slice A qs.length c).ownBlock = some g → mb < g ∧ g < ab
  cn : Blk V ab 3 #[.int .i64 a]
  ls : ∀ i, 3 ≤ i → i < 6 → RecL V X (F i)
  len : ∀ i, 3 ≤ i → i < 6 → (F i).xs.length = secN s.data.toList j t i
  ap : ∀ i k, 3 ≤ i → i < 6 → 3 ≤ k → k < 6 → i ≠ k → ∀ g, (F i).v.ownBlock = some g → (F i).v.ownBlock ≠ (F k).v.ownBlock
  ask : AskR s.data.toList qs p
  pl : GoodB s.data.toList → st = (p, false)
  o : pb + 1 < mb ∧ mb < ab ∧ ab < X ∧ X ≤ V.heap.size
theorem SecS.keepK {K : Nat → Prop} {w : World} {s : ByteArray} {rb pb mb ab : Nat} {qs : List QRec} {p : Nat} {A : Option Addr} {c X j t : Nat} {F : Nat → LRec} {a : Int} {st : Nat × Bool} {V V' : World}
    (h : SecS w s rb pb mb ab qs p A c X j t F a st V) (hk : KeepK K V V') (hK : ∀ i, i < V.heap.size → i ≤ ab ∨ X ≤ i → K i) : SecS w s rb pb mb ab qs p A c X j t F a st V' := by
  have ho := h.o
  have hz := hk.size
  exact ⟨h.ms.keepK hk fun i hi => hK i (by omega) (by omega), h.bx.keepK hk (hK _ (by omega) (by omega)), h.sq.keepK hk fun g hg => by have := h.oq g hg; exact hK g (by omega) (by omega), h.oq, h.cn.keepK hk (hK _ (by omega) (by omega)),
    fun i h1 h2 => ⟨(h.ls i h1 h2).sl.keepK hk fun g hg => hK g ((h.ls i h1 h2).sl.lt g hg) (.inr ((h.ls i h1 h2).own g hg)), (h.ls i h1 h2).own, (h.ls i h1 h2).ok⟩, h.len, h.ap, h.ask, h.pl, by omega⟩
theorem SecS.turn {w : World} {s : ByteArray} {rb pb mb ab : Nat} {qs : List QRec} {p : Nat} {A : Option Addr} {c X j t : Nat} {F : Nat → LRec} {a : Int} {st st' : Nat × Bool} {V V' : World}
    (h : SecS w s rb pb mb ab qs p A c X j t F a st V) (hr : Rd V' rb s st'.1 st'.2) (hk : But rb V V') (ha : st'.1 ≤ s.size) (hng : ¬ GoodB s.data.toList) : SecS w s rb pb mb ab qs p A c X j t F a st' V' := by
  have ho := h.o
  have ho2 := h.ms.o
  have hz := hk.size
  exact ⟨h.ms.turn hr hk ha, hk.blk h.bx (by omega), h.sq.keepK hk fun g hg => by have := h.oq g hg; exact ⟨by omega, by omega⟩, h.oq, hk.blk h.cn (by omega),
    fun i h1 h2 => ⟨(h.ls i h1 h2).sl.keepK hk fun g hg => ⟨(h.ls i h1 h2).sl.lt g hg, by have := (h.ls i h1 h2).own g hg; omega⟩, (h.ls i h1 h2).own, (h.ls i h1 h2).ok⟩, h.len, h.ap, h.ask, fun hG => absurd hG hng, by omega⟩
theorem msgC_set {v0 v1 v2 : Value} {F : Nat → LRec} {x : Nat} (hx : 3 ≤ x ∧ x < 6) (f : LRec) : (#[v0, v1, v2, (F 3).v, (F 4).v, (F 5).v].setIfInBounds x f.v) = #[v0, v1, v2, (updF F x f 3).v, (updF F x f 4).v, (updF F x f 5).v] := by
  have hc : x = 3 ∨ x = 4 ∨ x = 5 := by omega
  rcases hc with rfl | rfl | rfl <;> simp [updF]
theorem msgC_at {v0 v1 v2 : Value} {F : Nat → LRec} {x : Nat} (hx : 3 ≤ x ∧ x < 6) : #[v0, v1, v2, (F 3).v, (F 4).v, (F 5).v][x]? = some (F x).v := by
  have hc : x = 3 ∨ x = 4 ∨ x = 5 := by omega
  rcases hc with rfl | rfl | rfl <;> rfl
/-- One more record. -/
theorem SecS.push {w : World} {s : ByteArray} {rb pb mb ab : Nat} {qs : List QRec} {p : Nat} {A : Option Addr} {c X j t : Nat} {F : Nat → LRec} {a : Int} {st : Nat × Bool} {V V4 w5 : World} {r : RRec} {f : LRec}
    (h : SecS w s rb pb mb ab qs p A c X j t F a st V) (hj : j < 3) (hr : r.ok ∧ r.d.size ≤ 1000000) (hb : Below V.heap.size V V4) (hf : f.xs = (F (3 + j)).xs ++ [r])
    (hs : Sl w5 5 f.v f.xs.length (flatV RRec.vs (F (3 + j)).xs ++ r.vs)) (hg : V4.grownBy w5 (F (3 + j)).v.ownBlock) (hv : f.v.ownBlock = (F (3 + j)).v.ownBlock ∨ f.v.ownBlock = some V4.heap.size) :
    SecS w s rb pb mb ab qs p A c X j (t + 1) (updF F (3 + j) f) a st (w5.setCell ⟨mb, 3 + j, none⟩ f.v) ∧ ∀ B b, mb < B → mb < b → B ≤ X → b + 1 ≤ X → KeepX B X b (b + 1) V (w5.setCell ⟨mb, 3 + j, none⟩ f.v) := by
  have ho := h.o
  have ho2 := h.ms.o
  have hz := hb.size
  have hz5 := hg.size
  have hx := h.ls (3 + j) (by omega) (by omega)
  have hK : KeepK (fun i => i < V.heap.size ∧ (F (3 + j)).v.ownBlock ≠ some i) V w5 := (KeepK.of_below hb fun i hi => hi.1).grown hg (fun i hi => by have := hi.1; omega) (fun i hi e => hi.2 e.symm)
  have hK2 : KeepK (fun i => i < V.heap.size ∧ (F (3 + j)).v.ownBlock ≠ some i ∧ i ≠ mb) V (w5.setCell ⟨mb, 3 + j, none⟩ f.v) := (hK.mono fun i hi => ⟨hi.1, hi.2.1⟩).setCell (p := ⟨mb, 3 + j, none⟩) (fun i hi => hi.2.2) _
  have hno : ∀ i, i < X → (F (3 + j)).v.ownBlock ≠ some i := fun i hi e => by have := hx.own i e; omega
  have hfo : ∀ g, f.v.ownBlock = some g → X ≤ g := fun g hgg => by
    rcases hv with e | e
    · exact hx.own g (e.symm.trans hgg)
    · have := e.symm.trans hgg
      injection this with this
      omega
  have hbx := (h.bx.keepK hK ⟨by omega, hno _ (by omega)⟩).set_ (3 + j) f.v
  rw [msgC_set (by omega)] at hbx
  refine ⟨⟨h.ms.keepK hK2 fun i hi => ⟨by omega, hno _ (by omega), by omega⟩, hbx, h.sq.keepK hK2 fun g hgg => by have := h.oq g hgg; exact ⟨by omega, hno _ (by omega), by omega⟩, h.oq, h.cn.keepK hK2 ⟨by omega, hno _ (by omega), by omega⟩, ?_, ?_, ?_, h.ask, h.pl, by simp [World.setCell]; omega⟩, ?_⟩
  · intro i h1 h2
    by_cases hi : i = 3 + j
    · subst hi
      unfold updF
      rw [if_pos rfl]
      refine ⟨?_, hfo, ?_⟩
      · rw [hf, flatV_append, flatV_one]
        have hs2 := hs.far (p := ⟨mb, 3 + j, none⟩) (fun g hgg => by have := hfo g hgg; show g ≠ mb; omega) f.v
        rw [hf] at hs2
        exact hs2
      · intro r' hr'
        rw [hf] at hr'
        rcases List.mem_append.1 hr' with hr' | hr'
        · exact hx.ok r' hr'
        · rw [List.mem_singleton.1 hr']; exact hr
    · unfold updF
      rw [if_neg hi]
      have hli := h.ls i h1 h2
      refine ⟨?_, hli.own, hli.ok⟩
      by_cases he : (F i).v.ownBlock = (F (3 + j)).v.ownBlock
      · cases hq : (F i).v.ownBlock with
        | none => exact hli.sl.keep (Nat.le_trans hz (Nat.le_trans hz5 (by simp [World.setCell]))) fun g hgg => by rw [hq] at hgg; cases hgg
        | some g0 => exact absurd he (h.ap i (3 + j) h1 h2 (by omega) (by omega) hi g0 hq)
      · exact hli.sl.keepK hK2 fun g hgg => ⟨hli.sl.lt g hgg, fun e => he (hgg.trans e.symm), by have := hli.own g hgg; omega⟩
  · intro i h1 h2
    have hl := h.len i h1 h2
    by_cases hi : i = 3 + j
    · subst hi
      unfold updF
      rw [if_pos rfl, hf, List.length_append, hl]
      unfold secN
      rw [if_neg (by omega), if_pos rfl, if_neg (by omega), if_pos rfl]
      rfl
    · unfold updF
      rw [if_neg hi, hl]
      unfold secN
      rw [if_neg hi, if_neg hi]
  · intro i k h1 h2 h3 h4 hik g hgg
    unfold updF at hgg ⊢
    by_cases hi : i = 3 + j
    · rw [if_pos hi] at hgg ⊢
      rw [if_neg (fun e => hik (hi.trans e.symm))]
      rcases hv with e | e
      · rw [e] at hgg ⊢
        exact h.ap (3 + j) k (by omega) (by omega) h3 h4 (fun e => hik (hi.trans e)) g hgg
      · rw [e]
        intro e2
        have := (h.ls k h3 h4).sl.lt _ e2.symm
        omega
    · rw [if_neg hi] at hgg ⊢
      by_cases hk : k = 3 + j
      · rw [if_pos hk]
        rcases hv with e | e
        · rw [e]
          exact h.ap i (3 + j) h1 h2 (by omega) (by omega) hi g hgg
        · rw [e]
          intro e2
          have := (h.ls i h1 h2).sl.lt _ e2
          omega
      · rw [if_neg hk]
        exact h.ap i k h1 h2 h3 h4 hik g hgg
  · intro B b hB hb2 hBX hbX
    exact (KeepX.of_below hb).trans (((KeepX.refl _ _ _ _ _).grown hg (fun i hi => by have := hx.own i hi; omega)).trans (.cell _ (by show (mb < B ∨ _) ∧ (mb < b ∨ _); omega)))
theorem sec_at {pre : List Nat} {x : Nat} (h : pre ++ [x] <+: [3, 4, 5]) : x = 3 + pre.length ∧ pre.length < 3 := by
  obtain ⟨r, hr⟩ := h
  match pre, hr with
  | [], hr => simp at hr; exact ⟨by simp; omega, by simp⟩
  | [a], hr => simp at hr; exact ⟨by simp; omega, by simp⟩
  | [a, b], hr => simp at hr; exact ⟨by simp; omega, by simp⟩
  | a :: b :: c :: p, hr => simp at hr
theorem res_done {g : Nat} {V : World} (r0 : Blk V g 35 #[.int .u16 0, .int .u16 0, .slice none 0 0, .slice none 0 0, .slice none 0 0, .slice none 0 0]) (r1 : Blk V (g + 1) 28 #[.int .i64 0]) (v0 v1 v2 v3 v4 v5 u : Value) :
    Blk (((((((V.setCell ⟨g, 0, none⟩ v0).setCell ⟨g, 1, none⟩ v1).setCell ⟨g, 2, none⟩ v2).setCell ⟨g, 3, none⟩ v3).setCell ⟨g, 4, none⟩ v4).setCell ⟨g, 5, none⟩ v5).setCell ⟨g + 1, 0, none⟩ u) g 35 #[v0, v1, v2, v3, v4, v5] ∧
    Blk (((((((V.setCell ⟨g, 0, none⟩ v0).setCell ⟨g, 1, none⟩ v1).setCell ⟨g, 2, none⟩ v2).setCell ⟨g, 3, none⟩ v3).setCell ⟨g, 4, none⟩ v4).setCell ⟨g, 5, none⟩ v5).setCell ⟨g + 1, 0, none⟩ u) (g + 1) 28 #[u] ∧
    KeepK (fun i => i ≠ g ∧ i ≠ g + 1) V (((((((V.setCell ⟨g, 0, none⟩ v0).setCell ⟨g, 1, none⟩ v1).setCell ⟨g, 2, none⟩ v2).setCell ⟨g, 3, none⟩ v3).setCell ⟨g, 4, none⟩ v4).setCell ⟨g, 5, none⟩ v5).setCell ⟨g + 1, 0, none⟩ u) := by
  have k2 := keep_msg (K := fun i => i ≠ g) V (g := g) (fun i hi => hi) v0 v1 v2 v3 v4 v5
  have k1 := keep_msg (K := fun i => i ≠ g ∧ i ≠ g + 1) V (g := g) (fun i hi => hi.1) v0 v1 v2 v3 v4 v5
  refine ⟨(r0.msg v0 v1 v2 v3 v4 v5).far (by show g ≠ g + 1; omega) u, ?_, k1.setCell (p := ⟨g + 1, 0, none⟩) (fun i hi => hi.2) u⟩
  have hb := (r1.keepK k2 (by omega)).set_ 0 u
  simpa using hb
theorem SecS.next {w : World} {s : ByteArray} {rb pb mb ab : Nat} {qs : List QRec} {p : Nat} {A : Option Addr} {c X j t : Nat} {F : Nat → LRec} {st : Nat × Bool} {V : World}
    (h : SecS w s rb pb mb ab qs p A c X j t F ((3 + j : Nat) : Int) st V) (ht : headN s.data.toList (3 + j) = t) : SecS w s rb pb mb ab qs p A c X (j + 1) 0 F ((3 + (j + 1) : Nat) : Int) st (V.setCell ⟨ab, 0, none⟩ (.int .i64 (3 + (j : Int) + 1))) := by
  have ho := h.o
  have ho2 := h.ms.o
  have hk : KeepK (fun i => i ≠ ab) V (V.setCell ⟨ab, 0, none⟩ (.int .i64 (3 + (j : Int) + 1))) := (KeepK.refl _ V).setCell (p := ⟨ab, 0, none⟩) (fun i hi => hi) _
  have hc := h.cn.set_ 0 (.int .i64 (3 + (j : Int) + 1))
  rw [show (3 + (j : Int) + 1) = ((3 + (j + 1) : Nat) : Int) by omega] at hc ⊢
  rw [show (3 + (j : Int) + 1) = ((3 + (j + 1) : Nat) : Int) by omega] at hk
  exact ⟨h.ms.keepK hk fun i hi => by omega, h.bx.keepK hk (by omega), h.sq.keepK hk fun g hg => by have := h.oq g hg; omega, h.oq, by simpa using hc,
    fun i h1 h2 => ⟨(h.ls i h1 h2).sl.keepK hk fun g hg => by have := (h.ls i h1 h2).own g hg; omega, (h.ls i h1 h2).own, (h.ls i h1 h2).ok⟩, fun i h1 h2 => by rw [h.len i h1 h2, ← ht, secN_next], h.ap, h.ask, h.pl, by simp [World.setCell]; omega⟩
theorem KeepX.of_keepK {K : Nat → Prop} {B X b c : Nat} {U V : World} (h : KeepK K U V) (hK : ∀ i, i < U.heap.size → ((B ≤ i ∧ i < X) ∨ (b ≤ i ∧ i < c)) → K i) : KeepX B X b c U V := ⟨h.size, fun i hi hc => h.block i (hK i hi hc)⟩
/-- What stands between the sections. -/
def SecI (w : World) (s : ByteArray) (rb pb mb ab : Nat) (qs : List QRec) (p : Nat) (A : Option Addr) (c X : Nat) (pre : List Nat) (V : World) : Prop :=
  ∃ F q, SecS w s rb pb mb ab qs p A c X pre.length 0 F ((3 + pre.length : Nat) : Int) (q, false) V ∧ ab + 2 ≤ X
/-- What stands where it came to an end early. -/
def SecX (w : World) (s : ByteArray) (_X : Nat) (cd : Code) (_pre : List Nat) (V : World) : Prop :=
  cd = .ret ∧ ∃ k : Int, k ≠ 0 ∧ Blk V w.heap.size 35 #[.int .u16 0, .int .u16 0, .slice none 0 0, .slice none 0 0, .slice none 0 0, .slice none 0 0] ∧ Blk V (w.heap.size + 1) 28 #[.int .i64 k] ∧ Below w.heap.size w V ∧ ¬ GoodB s.data.toList
theorem SecS.up {w : World} {s : ByteArray} {rb pb mb ab : Nat} {qs : List QRec} {p : Nat} {A : Option Addr} {c X X' : Nat} {a : Int} {st : Nat × Bool} {V : World}
    (h : SecS w s rb pb mb ab qs p A c X 0 0 (fun _ => ⟨none, [], 0⟩) a st V) (hX : X ≤ X') (hV : X' ≤ V.heap.size) : SecS w s rb pb mb ab qs p A c X' 0 0 (fun _ => ⟨none, [], 0⟩) a st V :=
  ⟨h.ms, h.bx, h.sq, h.oq, h.cn, fun i _ _ => ⟨Sl.nil _ _, fun g hg => by simp [LRec.v, Value.ownBlock] at hg, fun r hr => by cases hr⟩, h.len, h.ap, h.ask, h.pl, by have := h.o; omega⟩
theorem out_keep {B X : Nat} {A A' : World} (h : Out B X A A') : KeepK (fun i => i < A.heap.size ∧ (i < B ∨ X ≤ i)) A A' := ⟨h.os, h.tape, h.output, h.size, fun i hi => h.block i hi.1 hi.2⟩
theorem SecI.out {w : World} {s : ByteArray} {rb pb mb ab : Nat} {qs : List QRec} {p : Nat} {A : Option Addr} {c X B : Nat} {pre : List Nat} {V V' : World} (h : SecI w s rb pb mb ab qs p A c X pre V) (ho : Out B X V V') (hB : ab < B) : SecI w s rb pb mb ab qs p A c X pre V' := by
  obtain ⟨F, q, h1, h2⟩ := h
  exact ⟨F, q, h1.keepK (out_keep ho) (fun i hi hc => ⟨hi, by omega⟩), h2⟩
theorem SecX.out {w : World} {s : ByteArray} {X B : Nat} {cd : Code} {pre : List Nat} {V V' : World} (h : SecX w s X cd pre V) (ho : Out B X V V') (hB : w.heap.size + 1 < B) : SecX w s X cd pre V' := by
  obtain ⟨h0, k, h1, h2, h3, h4, h5⟩ := h
  have hk := out_keep ho
  exact ⟨h0, k, h1, h2.keepK hk ⟨h2.lt, by omega⟩, h3.keepK hk ⟨h3.lt, by omega⟩, h4.trans (hk.below fun i hi => ⟨by have := h2.lt; omega, by omega⟩), h5⟩
set_option maxRecDepth 100000 in
set_option maxHeartbeats 8000000 in
theorem msgRead_any (s : ByteArray) (hs : s.size ≤ 100000) (w : World) : Calls Try.prog 14 #[.string s] w (ReadMP s w) := by
  obtain ⟨n, hn⟩ : ∃ n : Nat, 8 ≤ n := ⟨8, by omega⟩
  refine (callsIn_wide (n := n)).1 ?_
  have h1n : 1 ≤ n := by omega
  have hsl : s.data.toList.length = s.size := by simp
  have hsI : (s.size : Int) ≤ 100000 := by omega
  have hsp : s.size ≤ 140737488355328 := by omega
  refine callsIn_of_wp_marks Try.func14 rfl trivial ?_ rfl
  simp only [Try.ntmps14, List.size_toArray, List.length_cons, List.length_nil, Nat.reduceAdd, Nat.reduceSub, Array.replicate_succ, Array.replicate_zero, List.push_toArray, List.append_toArray, List.nil_append, List.cons_append]
  by_cases hsh : s.size < 12
  · have hshI : (s.size : Int) < 12 := by omega
    gi_wp2_with (fail)
    refine ⟨_, res_cell_cellE rfl _ _ w.heap.size 35 _ _ ⟨w.heap.size + 1, 0, none⟩ (.int .i64 5) rfl ((Blk.new w _ _).alloc _) Try.underlying35 rfl agg_msg rfl (load_errno _ _ _ ?_), ?_⟩
    · have := (Blk.new (w.alloc (.cells #[.int .u16 0, .int .u16 0, .slice none 0 0, .slice none 0 0, .slice none 0 0, .slice none 0 0] 35)) 28 #[.int .i64 5]).cell 0
      rw [World.size_alloc] at this
      exact this
    · refine ⟨((Below.refl _ _).alloc (Nat.le_refl _) _).alloc (by simp) _, .inl ⟨5, by decide, rfl, ?_⟩⟩
      rintro ⟨q, h, _⟩
      omega
  · have hshI : ¬ (s.size : Int) < 12 := by omega
    gi_wp2_with (fail)
    refine ⟨trivial, ((callsIn_wide (n := n - 1)).2 (rOpen_any s _)).mono ?_⟩
    rintro e w1 ⟨rfl, hrd, hb1⟩
    have hb0 : Below w.heap.size w ((w.alloc (.cells #[.int .u16 0, .int .u16 0, .slice none 0 0, .slice none 0 0, .slice none 0 0, .slice none 0 0] 35)).alloc (.cells #[.int .i64 0] 28)) := ((Below.refl _ _).alloc (Nat.le_refl _) _).alloc (by simp) _
    have hr0 : Blk w1 w.heap.size 35 #[.int .u16 0, .int .u16 0, .slice none 0 0, .slice none 0 0, .slice none 0 0, .slice none 0 0] := ((Blk.new w _ _).alloc _).below hb1 (by simp; omega)
    have hr1 : Blk w1 (w.heap.size + 1) 28 #[.int .i64 0] := by
      have := Blk.new (w.alloc (.cells #[.int .u16 0, .int .u16 0, .slice none 0 0, .slice none 0 0, .slice none 0 0, .slice none 0 0] 35)) 28 #[.int .i64 0]
      rw [World.size_alloc] at this
      exact this.below hb1 (by simp)
    have hrb : w.heap.size + 2 ≤ ((w.alloc (.cells #[.int .u16 0, .int .u16 0, .slice none 0 0, .slice none 0 0, .slice none 0 0, .slice none 0 0] 35)).alloc (.cells #[.int .i64 0] 28)).heap.size := by simp
    have hrlt := hrd.lt
    have hbw1 := hb0.trans (hb1.mono hb0.size)
    generalize ((w.alloc (.cells #[.int .u16 0, .int .u16 0, .slice none 0 0, .slice none 0 0, .slice none 0 0, .slice none 0 0] 35)).alloc (.cells #[.int .i64 0] 28)).heap.size = rb at hrd hrb hrlt ⊢
    have HW1 := Lib.hid (And.intro hrd (And.intro hr0 (And.intro hr1 hbw1)))
    clear hrd hb0 hb1 hr0 hr1 hbw1
    gi_wp2_with (fail)
    obtain ⟨pb, hpb⟩ : ∃ pb, w1.heap.size = pb := ⟨_, rfl⟩
    have hM : MS w s rb pb (pb + 1) 0 (0, false) ((w1.alloc (.cells #[.pointer (some ⟨rb, 0, none⟩)] 94)).alloc (.cells #[.int .i64 0, .int .i64 0, .int .i64 0, .int .i64 0, .int .i64 0, .int .i64 0] 75)) := by
      obtain ⟨h1, h2, h3, h4⟩ := HW1.out
      refine ⟨(h4.alloc h4.size _).alloc (by have := h4.size; simp; omega) _, (h2.alloc _).alloc _, (h3.alloc _).alloc _, Blk.alloc (Blk.alloc h1 _) _, ?_, ?_, Nat.zero_le _, by simp; omega⟩
      · rw [← hpb]
        exact (Blk.new w1 _ _).alloc _
      · rw [headC_zero, ← hpb]
        have := Blk.new (w1.alloc (.cells #[.pointer (some ⟨rb, 0, none⟩)] 94)) 75 #[.int .i64 0, .int .i64 0, .int .i64 0, .int .i64 0, .int .i64 0, .int .i64 0]
        rw [World.size_alloc] at this
        exact this
    rw [hpb]
    obtain ⟨V0, hV0⟩ : ∃ V0, ((w1.alloc (.cells #[.pointer (some ⟨rb, 0, none⟩)] 94)).alloc (.cells #[.int .i64 0, .int .i64 0, .int .i64 0, .int .i64 0, .int .i64 0, .int .i64 0] 75)) = V0 := ⟨_, rfl⟩
    rw [hV0] at hM ⊢
    have HM := Lib.hid hM
    have HSZ := Lib.hid (And.intro hsh hs)
    clear hV0 hM HW1 hpb hshI hsh hrlt hs
    gi_loopg [6, 23, 24, 25, 26, 27, 28, 29, 30, 31] 7 (fun g _ v23 _ _ _ _ _ _ _ _ wr => ∃ k : Nat, v23 = .int .i64 (k : Int) ∧ g + k = 7 ∧ k ≤ 6 ∧ Aside (MS w s rb pb (pb + 1) k (2 * k, false) wr))
    case atStart => exact ⟨0, rfl, rfl, by omega, HM.out⟩
    case round =>
      obtain ⟨k, rfl, hg, hk6, hM⟩ := hrel
      by_cases hlt : k < 6
      · have hltI : (k : Int) < 6 := by omega
        have hp0 := hM.out.pp.cell 0
        have HN := Lib.hid ((callsIn_wide (n := n - 1)).2 (num2_st hM.out.rd hsp (by have := HSZ.out; show 2 * k ≤ _; omega)))
        rw [num_head hlt (by have := HSZ.out; omega)] at HN
        have hle := headN_le s.data.toList k
        have y0 := wrap2i hle
        have HLE := Lib.hid hle
        gi_wp2_with (fail)
        refine ⟨trivial, HN.out.mono ?_⟩
        rintro e w2 ⟨rfl, hr, hk, ha⟩
        have h2 := hM.out.turn hr hk ha
        have f0 := h2.hd.frozen k
        obtain ⟨v0, hv0⟩ := headC_some s.data.toList k hlt
        have c0 := (h2.hd.cell k).trans hv0
        have H2 := Lib.hid h2
        clear hr hk ha HN hM h2 hv0 hp0 hle
        gi_wp2_with (fail)
        gi_roundg (7 - (k + 1))
        case measure => omega
        case rel => exact ⟨k + 1, by go_num, by omega, by omega, H2.out.head hlt⟩
      · obtain rfl : k = 6 := by omega
        have HM2 := Lib.hid hM.out
        have hgd := hM.out.o
        clear hM hlt HM hk6
        gi_wp2_with (fail)
        obtain ⟨V1, rfl⟩ : ∃ V1, V1 = wr := ⟨_, rfl⟩
        gi_loopg [8, 34, 35, 36, 37, 38, 39] 5 (fun g _ v34 _ _ _ _ _ wr => ∃ k : Nat, v34 = .int .i64 (k : Int) ∧ g + k = 5 ∧ k ≤ 4 ∧ V1 = wr ∧ Aside (∀ i, i < k → headN s.data.toList (2 + i) ≤ 4096))
        case atStart => exact ⟨0, rfl, rfl, by omega, rfl, (show ∀ i, i < 0 → _ from fun i hi => absurd hi (by omega))⟩
        case round =>
          obtain ⟨k, rfl, hg, hk4, rfl, hall⟩ := hrel
          by_cases hlt : k < 4
          · have hltI : (k : Int) < 4 := by omega
            have c0 : V1.cell? ⟨pb + 1, 2 + k, none⟩ = some (.int .i64 (headN s.data.toList (2 + k) : Int)) := (HM2.out.hd.cell (2 + k)).trans (headC_at _ (by omega))
            by_cases hbig : headN s.data.toList (2 + k) ≤ 4096
            · have hbI : ¬ (4096 : Int) < (headN s.data.toList (2 + k) : Int) := by omega
              have HBG := Lib.hid hbig
              clear hbig
              gi_wp2_with (fail)
              gi_roundg (5 - (k + 1))
              case measure => omega
              case rel => exact ⟨k + 1, by go_num, by omega, by omega, rfl, (show ∀ i, i < k + 1 → _ from fun i hi => by
                by_cases h : i = k
                · subst h; exact HBG.out
                · exact hall.out i (by omega))⟩
            · have hbI : (4096 : Int) < (headN s.data.toList (2 + k) : Int) := by omega
              have q0 := HM2.out.r0.cell 0
              have q1 := HM2.out.r0.cell 1
              have q2 := HM2.out.r0.cell 2
              have q3 := HM2.out.r0.cell 3
              have q4 := HM2.out.r0.cell 4
              have q5 := HM2.out.r0.cell 5
              have q6 := HM2.out.r1.cell 0
              have f0 := HM2.out.r0.frozen 0
              have f1 := HM2.out.r0.frozen 1
              have f2 := HM2.out.r0.frozen 2
              have f3 := HM2.out.r0.frozen 3
              have f4 := HM2.out.r0.frozen 4
              have f5 := HM2.out.r0.frozen 5
              have f6 := HM2.out.r1.frozen 0
              have HBG := Lib.hid hbig
              clear hbig
              gi_wp2_with (fail)
              have hd := HM2.out.done (.int .u16 0) (.int .u16 0) (.slice none 0 0) (.slice none 0 0) (.slice none 0 0) (.slice none 0 0) (.int .i64 7)
              refine ⟨_, res_cell_cellE rfl _ _ w.heap.size 35 _ _ ⟨w.heap.size + 1, 0, none⟩ (.int .i64 7) rfl hd.1 Try.underlying35 rfl agg_msg rfl (load_errno _ _ _ (hd.2.1.cell 0)), ?_⟩
              refine ⟨hd.2.2.1, .inl ⟨7, by decide, rfl, fun hG => ?_⟩⟩
              have := hG.small (i := 2 + k) (by omega)
              have := HBG.out
              omega
          · obtain rfl : k = 4 := by omega
            have c0 : V1.cell? ⟨pb + 1, 0, none⟩ = some (.int .i64 (headN s.data.toList 0 : Int)) := (HM2.out.hd.cell 0).trans (headC_at _ (by omega))
            have c1 : V1.cell? ⟨pb + 1, 1, none⟩ = some (.int .i64 (headN s.data.toList 1 : Int)) := (HM2.out.hd.cell 1).trans (headC_at _ (by omega))
            have c2 : V1.cell? ⟨pb + 1, 2, none⟩ = some (.int .i64 (headN s.data.toList 2 : Int)) := (HM2.out.hd.cell 2).trans (headC_at _ (by omega))
            have y0 := wrap2 (headN_le s.data.toList 0)
            have y1 := wrap2 (headN_le s.data.toList 1)
            have HALL := Lib.hid hall.out
            clear hall hlt
            gi_wp2_with (fail)
            obtain ⟨mb, hmb⟩ : ∃ mb, V1.heap.size = mb := ⟨_, rfl⟩
            have hA0 : AskS w s rb pb mb [] 12 none 0 (V1.alloc (.cells #[.int .u16 (headN s.data.toList 0 : Int), .int .u16 (headN s.data.toList 1 : Int), .slice none 0 0, .slice none 0 0, .slice none 0 0, .slice none 0 0] 35)) := by
              have hb : Below V1.heap.size V1 (V1.alloc (.cells #[.int .u16 (headN s.data.toList 0 : Int), .int .u16 (headN s.data.toList 1 : Int), .slice none 0 0, .slice none 0 0, .slice none 0 0, .slice none 0 0] 35)) := (Below.refl _ _).alloc (Nat.le_refl _) _
              refine ⟨HM2.out.below hb, ?_, Sl.nil _ _, fun g hg => by simp [Value.ownBlock] at hg, .nil, by have := HM2.out.o; omega⟩
              rw [← hmb]
              exact Blk.new _ _ _
            rw [hmb]
            generalize V1.alloc (.cells #[.int .u16 (headN s.data.toList 0 : Int), .int .u16 (headN s.data.toList 1 : Int), .slice none 0 0, .slice none 0 0, .slice none 0 0, .slice none 0 0] 35) = V2 at hA0 ⊢
            have HA0 := Lib.hid hA0
            obtain ⟨N2, hN2⟩ : ∃ N2, headN s.data.toList 2 = N2 := ⟨_, rfl⟩
            rw [hN2]
            have HN2 := Lib.hid hN2
            have hN2c : N2 ≤ 4096 := by rw [← hN2]; exact HALL.out 0 (by omega)
            clear hA0 hmb c0 c1 c2 y0 y1 hN2 HM2
            gi_loopg [10, 11, 12, 51, 52, 53, 54, 55, 56, 57, 58, 59, 60, 61, 62, 64, 65, 66, 67, 68, 69, 70, 71, 72, 73] (N2 + 1) (fun g _ _ _ v51 _ _ _ _ _ _ _ _ _ _ _ _ _ _ _ _ _ _ _ _ _ wr => ∃ (k p : Nat) (A : Option Addr) (c : Nat) (qs : List QRec), v51 = .int .i64 (k : Int) ∧ g + k = N2 + 1 ∧ k ≤ N2 ∧ qs.length = k ∧ Aside (AskS w s rb pb mb qs p A c wr))
            case atStart => exact ⟨0, 12, none, 0, [], rfl, by omega, by omega, rfl, HA0.out⟩
            case round =>
              obtain ⟨k, p, A, c, qs, rfl, hg, hkN, hql, hS⟩ := hrel
              have hbad := Lib.hid (show GoodB s.data.toList → k < N2 → qs = [] ∧ p = 12 from fun hG hk => by
                have := hG.small (i := 2) (by omega)
                rw [HN2.out] at this
                have hq : qs = [] := List.eq_nil_of_length_eq_zero (by omega)
                have ha := hS.out.ask
                rw [hq] at ha
                exact ⟨hq, ha.zero⟩)
              by_cases hlt : k < N2
              · have hltI : (k : Int) < (N2 : Int) := by omega
                have p0 := hS.out.ms.pp.cell 0
                have HC := Lib.hid ((callsIn_wide (n := n - 1)).2 (name_st (st := (p, false)) hS.out.ms.rd hsp hS.out.ms.at_))
                have HH := Lib.hid (And.intro hS.out (And.intro hkN (And.intro hlt (And.intro hg hql))))
                have hstep : askStep s.data.toList p = askStep s.data.toList p := rfl
                conv at hstep => rhs; unfold askStep
                clear hS
                gi_wp2_with (fail)
                refine ⟨trivial, HC.out.mono ?_⟩
                rintro e u1 ⟨rfl, hr, hk, ha⟩
                generalize nameM s.data.toList (p, false) = x1 at hr ha hstep ⊢
                have h1 := HH.out.1.turn hr hk ha
                have p1 := h1.ms.pp.cell 0
                have HC1 := Lib.hid ((callsIn_wide (n := n - 1)).2 (num2_st h1.ms.rd hsp h1.ms.at_))
                have H1 := Lib.hid h1
                clear hr hk ha HC h1 p0
                gi_wp2_with (fail)
                refine ⟨trivial, HC1.out.mono ?_⟩
                rintro e u2 ⟨rfl, hr, hk, ha⟩
                have hx2 := num2_lt s.data.toList x1.2
                generalize numM s.data.toList x1.2 2 = x2 at hr ha hstep hx2 ⊢
                have h2 := H1.out.turn hr hk ha
                have p2 := h2.ms.pp.cell 0
                have y2 := wrap2 hx2
                have HC2 := Lib.hid ((callsIn_wide (n := n - 1)).2 (num2_st h2.ms.rd hsp h2.ms.at_))
                have H2 := Lib.hid h2
                clear hr hk ha HC1 h2 p1 hx2 H1
                gi_wp2_with (fail)
                refine ⟨trivial, HC2.out.mono ?_⟩
                rintro e u3 ⟨rfl, hr, hk, ha⟩
                have hx3 := num2_lt s.data.toList x2.2
                generalize numM s.data.toList x2.2 2 = x3 at hr ha hstep hx3 ⊢
                have h3 := H2.out.turn hr hk ha
                have p3 := h3.ms.pp.cell 0
                have y3 := wrap2 hx3
                have HC3 := Lib.hid ((callsIn_wide (n := n - 1)).2 (rBad_any h3.ms.rd))
                have H3 := Lib.hid h3
                clear hr hk ha HC2 h3 p2 hx3 H2 y2
                gi_wp2_with (fail)
                refine ⟨trivial, HC3.out.mono ?_⟩
                rintro e u4 ⟨rfl, rfl⟩
                obtain ⟨y, p', bad⟩ := x3
                dsimp only at hstep p3 y3 ⊢
                cases bad with
                | true =>
                  rw [if_pos rfl] at hstep
                  have q0 := H3.out.ms.r0.cell 0
                  have q1 := H3.out.ms.r0.cell 1
                  have q2 := H3.out.ms.r0.cell 2
                  have q3 := H3.out.ms.r0.cell 3
                  have q4 := H3.out.ms.r0.cell 4
                  have q5 := H3.out.ms.r0.cell 5
                  have q6 := H3.out.ms.r1.cell 0
                  have f0 := H3.out.ms.r0.frozen 0
                  have f1 := H3.out.ms.r0.frozen 1
                  have f2 := H3.out.ms.r0.frozen 2
                  have f3 := H3.out.ms.r0.frozen 3
                  have f4 := H3.out.ms.r0.frozen 4
                  have f5 := H3.out.ms.r0.frozen 5
                  have f6 := H3.out.ms.r1.frozen 0
                  have HST := Lib.hid hstep
                  clear hstep
                  gi_wp2_with (fail)
                  have hd := H3.out.ms.done (.int .u16 0) (.int .u16 0) (.slice none 0 0) (.slice none 0 0) (.slice none 0 0) (.slice none 0 0) (.int .i64 5)
                  refine ⟨_, res_cell_cellE rfl _ _ w.heap.size 35 _ _ ⟨w.heap.size + 1, 0, none⟩ (.int .i64 5) rfl hd.1 Try.underlying35 rfl agg_msg rfl (load_errno _ _ _ (hd.2.1.cell 0)), ?_⟩
                  refine ⟨hd.2.2.1, .inl ⟨5, by decide, rfl, fun hG => ?_⟩⟩
                  obtain ⟨_, rfl⟩ := hbad.out hG hlt
                  obtain ⟨q, _, _, _, _, _, hq⟩ := hG
                  rw [HST.out] at hq
                  cases hq
                | false =>
                  rw [if_neg (by decide)] at hstep
                  have m2 : u3.cell? ⟨mb, 2, none⟩ = some (.slice A qs.length c) := H3.out.bx.cell 2
                  have g2 := H3.out.bx.frozen 2
                  have HST := Lib.hid hstep
                  have HSL := Lib.hid (H3.out.sl.alloc (.cells #[.string ⟨x1.1.toArray⟩, .int .u16 (x2.1 : Int), .int .u16 (y : Int)] 49))
                  have HSR := Lib.hid (src_threeQ (P := Try.prog) Try.underlying32 u3 49 (.string ⟨x1.1.toArray⟩) (.int .u16 (x2.1 : Int)) (.int .u16 (y : Int)) rfl rfl rfl)
                  obtain ⟨i0, hi0, hz0, hz1, hz2⟩ := info_parts info_q
                  have hmlt := H3.out.bx.lt
                  have hqc : qs.length + 1 ≤ 4097 := by omega
                  clear hstep
                  rw [hql] at m2 HSL
                  have hnm : ∀ i, (Value.slice A k c).ownBlock = some i → mb < i := by have := H3.out.own; rw [hql] at this; exact this
                  gi_wp2_with (gi_at_builtin; go_must (refine wpListIn_append_sl _ rfl (.tmp 65) (.tmp 70) 32 32 rfl 49 i0 (.agg #[.string ⟨#[]⟩, .int .u16 0, .int .u16 0]) 3 24 Try.underlying32 hi0 hz0 hz1 hz2 rfl (.slice A k c) k (flatV QRec.vs qs) rfl HSL.out _ rfl 1 [.string ⟨x1.1.toArray⟩, .int .u16 (x2.1 : Int), .int .u16 (y : Int)] HSR.out (by unfold maxLen; omega) (by omega) ?_); intro v3 w3 hs3 hg3 hv3; obtain ⟨A3, c3, rfl, hc3, hm3⟩ := hs3.shape; have k1 := (H3.out.bx.alloc (.cells #[.string ⟨x1.1.toArray⟩, .int .u16 (x2.1 : Int), .int .u16 (y : Int)] 49)).grown hg3 (fun e => by have := hnm _ e.symm; omega); have g5 : w3.cell? ⟨mb, 2, none⟩ = some (.slice A qs.length c) := k1.cell 2; have p5 := k1.frozen 2; have HG3 := Lib.hid (And.intro hs3 (And.intro hg3 (And.intro hv3 (And.intro k1 hnm)))); clear hs3 hg3 hv3 k1 hc3 hm3 m2 g2)
                  gi_roundg (N2 + 1 - (k + 1))
                  case measure => omega
                  case rel => exact ⟨k + 1, p', A3, c3, qs ++ [⟨⟨x1.1.toArray⟩, x2.1, y⟩], by go_num, by omega, by omega, by simp; omega, H3.out.push hql (by rw [HST.out]) HG3.out.1 HG3.out.2.1 HG3.out.2.2.1⟩
              · obtain rfl : k = N2 := by omega
                have HS := Lib.hid hS.out
                have HQ := Lib.hid (And.intro hql hg)
                clear hS hbad hg hkN HA0
                gi_wp2_with (fail)
                refine ⟨trivial, (sections_in (n - 1) mb _).mono ?_⟩
                rintro e W1 ⟨rfl, rfl⟩
                gi_wp2_with (fail)
                obtain ⟨ab, hab⟩ : ∃ ab, wr.heap.size = ab := ⟨_, rfl⟩
                obtain ⟨W0, hW0⟩ : ∃ W0, (wr.alloc (.cells #[.int .i64 3] 3)).alloc (.cells #[.pointer (some ⟨mb, 0, none⟩)] 82) = W0 := ⟨_, rfl⟩
                have hsz0 : W0.heap.size = ab + 2 := by rw [← hW0, ← hab]; simp
                have hS0 : SecS w s rb pb mb ab qs p A c W0.heap.size 0 0 (fun _ => ⟨none, [], 0⟩) 3 (p, false) W0 := by
                  have hb : Below wr.heap.size wr W0 := by rw [← hW0]; exact ((Below.refl _ _).alloc (Nat.le_refl _) _).alloc (by simp) _
                  have h := HS.out
                  refine ⟨h.ms.below hb, h.bx.below hb h.bx.lt, h.sl.below hb h.sl.lt, fun g hg => ⟨h.own g hg, by have := h.sl.lt g hg; omega⟩, ?_, fun i _ _ => ⟨Sl.nil _ _, fun g hg => by simp [LRec.v, Value.ownBlock] at hg, fun r hr => by cases hr⟩, fun i h1 _ => ?_, fun i k _ _ _ _ _ g hg => by simp [LRec.v, Value.ownBlock] at hg, h.ask, fun _ => rfl, by have := h.o; have := h.bx.lt; omega⟩
                  · rw [← hW0, ← hab]
                    exact (Blk.new wr _ _).alloc _
                  · show 0 = secN _ 0 0 i
                    unfold secN
                    rw [if_neg (by omega)]
                    split <;> rfl
                have hbx0 : Blk W0 (ab + 1) 82 #[.pointer (some ⟨mb, 0, none⟩)] := by
                  rw [← hW0, ← hab]
                  have := Blk.new (wr.alloc (.cells #[.int .i64 3] 3)) 82 #[.pointer (some ⟨mb, 0, none⟩)]
                  rw [World.size_alloc] at this
                  exact this
                rw [hab, hW0]
                have HS0 := Lib.hid (And.intro hS0 hsz0)
                have hmo := HS.out.o
                have hmo2 := HS.out.ms.o
                have hmab : mb < ab := by have := HS.out.bx.lt; omega
                clear hW0 hab HS hS0
                apply rangeM (gf := 51) (lb := #[.pointer (some ⟨ab + 1, 0, none⟩)]) rfl (enters_of Try.func51 (by kernel_rfl) rfl)
                  (sections1_M (ab + 1) mb W0 hbx0) (by omega) (Below.refl _ _) (fun _ => rfl)
                  (SecI w s rb pb mb ab qs p A c)
                  (SecX w s)
                  ?hI ?hIx ?h0
                case hI =>
                  intro X pre A1 A2 h ho
                  exact h.out ho (by omega)
                case hIx =>
                  intro X cd pre A1 A2 h ho
                  exact h.out ho (by omega)
                case h0 =>
                  intro X V hV hX
                  have hz := hV.size
                  refine ⟨_, p, (HS0.out.1.keepK (KeepK.of_below (K := fun i => i < W0.heap.size) hV fun i hi => hi) (fun i hi _ => hi)).up (by omega) (by omega), by omega⟩
                case hassign =>
                  intro l x V K hK
                  gi_wp2
                  exact hK
                case hbody =>
                  rintro l X pre x V hV ⟨F, q, hS, hX⟩ hpre
                  obtain ⟨rfl, hj3⟩ := sec_at hpre
                  obtain ⟨j, hj⟩ : ∃ j, pre.length = j := ⟨_, rfl⟩
                  rw [hj] at hj3 hS ⊢
                  have c13 := hS.cn.cell 0
                  have c5 : V.cell? ⟨pb + 1, 3 + j, none⟩ = some (.int .i64 (headN s.data.toList (3 + j) : Int)) := (hS.ms.hd.cell (3 + j)).trans (headC_at _ (by omega))
                  obtain ⟨cnt, hcnt⟩ : ∃ cnt, headN s.data.toList (3 + j) = cnt := ⟨_, rfl⟩
                  rw [hcnt] at c5
                  have hc4 : cnt ≤ 4096 := by
                    have := HALL.out (1 + j) (by omega)
                    rw [← hcnt, show 3 + j = 2 + (1 + j) by omega]
                    exact this
                  have hjI : ((3 + j : Nat) : Int) < 6 := by omega
                  have HS1 := Lib.hid hS
                  have HC := Lib.hid hcnt
                  have HP := Lib.hid (And.intro hpre hj)
                  clear hS hcnt hpre hsz0
                  gi_wp2_with (fail)
                  gi_loopg [15, 16, 79, 80, 81, 82, 83, 84, 85, 86, 87, 90, 91, 92, 93, 94, 95, 96, 97, 98] (cnt + 1) (fun g _ _ v79 _ _ _ _ _ _ _ _ _ _ _ _ _ _ _ _ _ wr => ∃ (t q : Nat) (F : Nat → LRec), v79 = .int .i64 (t : Int) ∧ g + t = cnt + 1 ∧ t ≤ cnt ∧ Aside (SecS w s rb pb mb ab qs p A c X j t F ((3 + j : Nat) : Int) (q, false) wr) ∧ Aside (KeepX W0.heap.size X (ab + 1) (ab + 1 + 1) V wr))
                  case atStart => exact ⟨0, q, F, rfl, rfl, by omega, HS1.out, KeepX.refl _ _ _ _ _⟩
                  case round =>
                    obtain ⟨t, q, F, rfl, hg, htc, hS, hKX⟩ := hrel
                    by_cases hlt : t < cnt
                    · have hltI : (t : Int) < (cnt : Int) := by omega
                      have p0 := hS.out.ms.pp.cell 0
                      have HR := Lib.hid (CallsIn.inRound l ((callsIn_wide (n := n - 1 - 1 - 1)).2 (recRead_any hS.out.ms.rd (by have := HSZ.out.2; omega) hS.out.ms.at_)))
                      have HV := Lib.hid (And.intro hS.out hKX.out)
                      clear hS hKX c13 c5
                      gi_wp2_with (fail)
                      refine ⟨trivial, fun h => by simp [Fence.wide] at h, HR.out.mono ?_⟩
                      rintro e u1 ⟨hd, hk⟩
                      rcases hd with ⟨⟨rn, rt, rc, rl, rd⟩, q', rfl, hr, hq', hok, hdl⟩ | ⟨k, hk0, rfl⟩
                      · dsimp only [RRec.val]
                        have h1 := HV.out.1.turn (st' := (q', false)) hr hk hq' (fun hG => by have := hG.none (i := 3 + j) (by omega); rw [HC.out] at this; omega)
                        have hsz0 := HS0.out.2
                        have ho9 := HV.out.1.o
                        have hoo := HV.out.1.ms.o
                        have HU := Lib.hid (And.intro h1 (And.intro (HV.out.2.trans (KeepX.of_keepK hk fun i hi hc => ⟨hi, by omega⟩)) (And.intro hok hdl)))
                        clear hr hk hq' h1 HR p0 hsz0 ho9 hoo
                        gi_wp2_with (fail)
                        obtain ⟨fA, fxs, fc, hF⟩ : ∃ fA fxs fc, F (3 + j) = (⟨fA, fxs, fc⟩ : LRec) := ⟨_, _, _, rfl⟩
                        obtain ⟨U, hU⟩ : ∃ U, u1.alloc (.cells #[.string rn, .int .u16 rt, .int .u16 rc, .int .u32 rl, .string rd] 85) = U := ⟨_, rfl⟩
                        have hUb : Below u1.heap.size u1 U := by rw [← hU]; exact (Below.refl _ _).alloc (Nat.le_refl _) _
                        have hgb : Blk U u1.heap.size 85 #[.string rn, .int .u16 rt, .int .u16 rc, .int .u32 rl, .string rd] := by rw [← hU]; exact Blk.new _ _ _
                        have hft : fxs.length = t := by
                          have := HU.out.1.len (3 + j) (by omega) (by omega)
                          rw [hF] at this
                          unfold secN at this
                          rw [if_neg (by omega), if_pos rfl] at this
                          exact this
                        have hbxU : Blk U mb 35 #[.int .u16 (headN s.data.toList 0 : Int), .int .u16 (headN s.data.toList 1 : Int), .slice A qs.length c, (F 3).v, (F 4).v, (F 5).v] := HU.out.1.bx.below hUb HU.out.1.bx.lt
                        have cmU : ∀ W, Below U.heap.size U W → W.cell? ⟨mb, 3 + j, none⟩ = some (.slice fA t fc) := fun W hW => by
                          have := ((hbxU.below hW hbxU.lt).cell (3 + j)).trans (msgC_at (by omega))
                          rw [hF] at this
                          rw [← hft]
                          exact this
                        have cgU : ∀ W, Below U.heap.size U W → W.cell? ⟨u1.heap.size, 0, none⟩ = some (.string rn) ∧ W.cell? ⟨u1.heap.size, 1, none⟩ = some (.int .u16 rt) ∧ W.cell? ⟨u1.heap.size, 2, none⟩ = some (.int .u16 rc) ∧ W.cell? ⟨u1.heap.size, 3, none⟩ = some (.int .u32 rl) ∧ W.cell? ⟨u1.heap.size, 4, none⟩ = some (.string rd) := fun W hW => by
                          have := hgb.below hW hgb.lt
                          exact ⟨this.cell 0, this.cell 1, this.cell 2, this.cell 3, this.cell 4⟩
                        have HCM := Lib.hid (And.intro cmU cgU)
                        have hFl : Sl u1 5 (.slice fA t fc) t (flatV RRec.vs fxs) := by
                          have := (HU.out.1.ls (3 + j) (by omega) (by omega)).sl
                          rw [hF] at this
                          rw [← hft]
                          exact this
                        have HFF := Lib.hid (And.intro hF (And.intro hft (And.intro hUb (And.intro hgb (And.intro hbxU hFl)))))
                        have hu1U : u1.heap.size < U.heap.size := hgb.lt
                        have htc5 : t + 1 ≤ 4097 := by omega
                        rw [hU]
                        clear hU hUb hgb hft hbxU cmU cgU hF hFl hok hdl
                        refine wpIn_region_class (fun _ => True) (by kernel_rfl) ?_
                        refine wpAnyC_take (i := 0) (v := (.pointer (some ⟨mb, 3 + j, none⟩))) rfl (by kernel_rfl) (by kernel_rfl) (by kernel_rfl) (by kernel_rfl) (fun _ _ _ h => h) trivial ⟨fun _ _ _ _ => trivial, Or.inl ⟨by kernel_rfl, ?_⟩⟩ ?_
                        · intro W hW; go_simp
                        refine wpAnyC_take (i := 1) (v := (.pointer (some ⟨mb, 3 + j, none⟩))) rfl (by kernel_rfl) (by kernel_rfl) (by kernel_rfl) (by kernel_rfl) (fun _ _ _ h => h) trivial ⟨fun _ _ _ _ => trivial, Or.inl ⟨by kernel_rfl, ?_⟩⟩ ?_
                        · intro W hW; go_simp
                        refine wpAnyC_take (i := 2) (v := (.pointer (some ⟨mb, 3 + j, none⟩))) rfl (by kernel_rfl) (by kernel_rfl) (by kernel_rfl) (by kernel_rfl) (fun _ _ _ h => h) trivial ⟨fun _ _ _ _ => trivial, Or.inl ⟨by kernel_rfl, ?_⟩⟩ ?_
                        · intro W hW; go_simp
                        refine wpAnyC_ready (rs := [3, 4]) (by kernel_rfl) (by simp) ?_
                        refine AllReadyC.cons rfl (fun K hK => ?_) (AllReadyC.cons rfl (fun K hK => ?_) AllReadyC.nil)
                        · skip
                          have hbD : Below U.heap.size U U.drew := (Below.refl _ _).drew
                          have c93 := HCM.out.1 _ hbD
                          go_simp
                          refine hK _ _ trivial ?_
                          clear hK K
                          clear c93 hbD
                          refine wpAnyC_ready (rs := [4]) (by kernel_rfl) (by simp) ?_
                          refine AllReadyC.cons rfl (fun K hK => ?_) AllReadyC.nil
                          have hbD : Below U.heap.size U U.drew := (Below.refl _ _).drew
                          obtain ⟨c0, c1, c2, c3, c4⟩ := HCM.out.2 _ hbD
                          go_simp
                          refine hK _ _ trivial ?_
                          clear hK K
                          clear c0 c1 c2 c3 c4 hbD
                          refine wpAnyC_ready (rs := [5]) (by kernel_rfl) (by simp) ?_
                          refine AllReadyC.cons rfl (fun K hK => ?_) AllReadyC.nil
                          go_simp
                          refine hK _ _ trivial ?_
                          clear hK K
                          refine wpAnyC_ready (rs := [6]) (by kernel_rfl) (by simp) ?_
                          refine AllReadyC.cons rfl (fun K hK => ?_) AllReadyC.nil
                          have hb4 : Below U.heap.size U (U.drew.alloc (.cells #[.string rn, .int .u16 rt, .int .u16 rc, .int .u32 rl, .string rd] 85)) := (Below.refl _ _).drew.alloc (Nat.le_refl _) _
                          have hb14 := HFF.out.2.2.1.trans (hb4.mono (Nat.le_of_lt hu1U))
                          obtain ⟨i0, hi0, hz0, hz1, hz2⟩ := info_parts info_rrE
                          have hs4 := HFF.out.2.2.2.2.2.below hb14 HFF.out.2.2.2.2.2.lt
                          have HSR := Lib.hid (src_rrE (P := Try.prog) Try.underlying33 U.drew 85 ⟨rn, rt, rc, rl, rd⟩)
                          refine stepIn_append_sl (by rfl) (.tmp 93) (.tmp 95) 33 33 rfl 85 i0 (.agg #[.string ⟨#[]⟩, .int .u16 0, .int .u16 0, .int .u32 0, .string ⟨#[]⟩]) 5 40 Try.underlying33 hi0 hz0 hz1 hz2 rfl (.slice fA t fc) t (flatV RRec.vs fxs) rfl hs4 _ rfl 1 (flatV RRec.vs [⟨rn, rt, rc, rl, rd⟩]) HSR.out (by unfold maxLen; omega) (by omega) ?_
                          intro v3 w3 hs3 hg3 hv3
                          obtain ⟨A3, c3, rfl, hc3, hm3⟩ := hs3.shape
                          refine hK _ _ trivial ?_
                          clear hK K
                          have hl1 : (fxs ++ [(⟨rn, rt, rc, rl, rd⟩ : RRec)]).length = t + 1 := by rw [List.length_append, HFF.out.2.1]; rfl
                          have hvv : (⟨A3, fxs ++ [⟨rn, rt, rc, rl, rd⟩], c3⟩ : LRec).v = .slice A3 (t + 1) c3 := by unfold LRec.v; rw [hl1]
                          have hfv : (⟨fA, fxs, fc⟩ : LRec).v = .slice fA t fc := by unfold LRec.v; rw [HFF.out.2.1]
                          have HPU := Lib.hid (HU.out.1.push (f := ⟨A3, fxs ++ [⟨rn, rt, rc, rl, rd⟩], c3⟩) (r := ⟨rn, rt, rc, rl, rd⟩) hj3 ⟨HU.out.2.2.1, HU.out.2.2.2⟩ hb14 (by rw [HFF.out.1]) (by rw [HFF.out.1, hvv]; show Sl w3 5 _ (fxs ++ [_]).length _; rw [hl1, ← flatV_one (vs := RRec.vs)]; exact hs3) (by rw [HFF.out.1, hfv]; exact hg3) (by rw [HFF.out.1, hvv, hfv]; exact hv3))
                          have hkm : w3.heap[mb]? = U.heap[mb]? := by
                            have h1 := hg3.block mb (Nat.lt_of_lt_of_le HFF.out.2.2.2.2.1.lt hb4.size) (fun e => by have h2 := (HU.out.1.ls (3 + j) (by omega) (by omega)).own mb (by rw [HFF.out.1]; show (Value.slice fA fxs.length fc).ownBlock = _; rw [HFF.out.2.1]; exact e.symm); have := HU.out.1.o; omega)
                            exact h1.trans (hb4.block mb HFF.out.2.2.2.2.1.lt)
                          have hb3 : Blk w3 mb 35 #[.int .u16 (headN s.data.toList 0 : Int), .int .u16 (headN s.data.toList 1 : Int), .slice A qs.length c, (F 3).v, (F 4).v, (F 5).v] := hkm.trans HFF.out.2.2.2.2.1
                          have c93 : w3.cell? ⟨mb, 3 + j, none⟩ = some (F (3 + j)).v := (hb3.cell (3 + j)).trans (msgC_at (by omega))
                          have f93 := hb3.frozen (3 + j)
                          clear hs3 hg3 hv3 hkm hb3 hs4 hb4 hb14 hi0 hz0 hz1 hz2
                          refine wpAnyC_ready (rs := [7]) (by kernel_rfl) (by simp) ?_
                          refine AllReadyC.cons rfl (fun K hK => ?_) AllReadyC.nil
                          go_simp
                          refine hK _ _ trivial ?_
                          clear hK K
                          refine wpAnyC_ready (rs := [8]) (by kernel_rfl) (by simp) ?_
                          refine AllReadyC.cons rfl (fun K hK => ?_) AllReadyC.nil
                          go_simp
                          refine hK _ _ trivial ?_
                          clear hK K c93 f93
                          refine wpAnyC_done (by kernel_rfl) ?_ _
                          dsimp only [calmQ]
                          gi_wp2_with (fail)
                          gi_roundg (cnt + 1 - (t + 1))
                          case measure => omega
                          case rel =>
                            have hp := HPU.out
                            rw [hvv] at hp
                            have ho9 := HU.out.1.o
                            have hsz0 := HS0.out.2
                            exact ⟨t + 1, q', _, by go_num, by omega, by omega, hp.1, HU.out.2.1.trans (hp.2 W0.heap.size (ab + 1) (by omega) (by omega) (by omega) (by omega))⟩
                        · skip
                          have hbD : Below U.heap.size U U.drew := (Below.refl _ _).drew
                          obtain ⟨c0, c1, c2, c3, c4⟩ := HCM.out.2 _ hbD
                          go_simp
                          refine hK _ _ trivial ?_
                          clear hK K
                          clear c0 c1 c2 c3 c4 hbD
                          refine wpAnyC_ready (rs := [3, 5]) (by kernel_rfl) (by simp) ?_
                          refine AllReadyC.cons rfl (fun K hK => ?_) (AllReadyC.cons rfl (fun K hK => ?_) AllReadyC.nil)
                          · skip
                            have hbD : Below U.heap.size U U.drew := (Below.refl _ _).drew
                            have c93 := HCM.out.1 _ hbD
                            go_simp
                            refine hK _ _ trivial ?_
                            clear hK K
                            clear c93 hbD
                            refine wpAnyC_ready (rs := [5]) (by kernel_rfl) (by simp) ?_
                            refine AllReadyC.cons rfl (fun K hK => ?_) AllReadyC.nil
                            go_simp
                            refine hK _ _ trivial ?_
                            clear hK K
                            refine wpAnyC_ready (rs := [6]) (by kernel_rfl) (by simp) ?_
                            refine AllReadyC.cons rfl (fun K hK => ?_) AllReadyC.nil
                            have hb4 : Below U.heap.size U (U.drew.alloc (.cells #[.string rn, .int .u16 rt, .int .u16 rc, .int .u32 rl, .string rd] 85)) := (Below.refl _ _).drew.alloc (Nat.le_refl _) _
                            have hb14 := HFF.out.2.2.1.trans (hb4.mono (Nat.le_of_lt hu1U))
                            obtain ⟨i0, hi0, hz0, hz1, hz2⟩ := info_parts info_rrE
                            have hs4 := HFF.out.2.2.2.2.2.below hb14 HFF.out.2.2.2.2.2.lt
                            have HSR := Lib.hid (src_rrE (P := Try.prog) Try.underlying33 U.drew 85 ⟨rn, rt, rc, rl, rd⟩)
                            refine stepIn_append_sl (by rfl) (.tmp 93) (.tmp 95) 33 33 rfl 85 i0 (.agg #[.string ⟨#[]⟩, .int .u16 0, .int .u16 0, .int .u32 0, .string ⟨#[]⟩]) 5 40 Try.underlying33 hi0 hz0 hz1 hz2 rfl (.slice fA t fc) t (flatV RRec.vs fxs) rfl hs4 _ rfl 1 (flatV RRec.vs [⟨rn, rt, rc, rl, rd⟩]) HSR.out (by unfold maxLen; omega) (by omega) ?_
                            intro v3 w3 hs3 hg3 hv3
                            obtain ⟨A3, c3, rfl, hc3, hm3⟩ := hs3.shape
                            refine hK _ _ trivial ?_
                            clear hK K
                            have hl1 : (fxs ++ [(⟨rn, rt, rc, rl, rd⟩ : RRec)]).length = t + 1 := by rw [List.length_append, HFF.out.2.1]; rfl
                            have hvv : (⟨A3, fxs ++ [⟨rn, rt, rc, rl, rd⟩], c3⟩ : LRec).v = .slice A3 (t + 1) c3 := by unfold LRec.v; rw [hl1]
                            have hfv : (⟨fA, fxs, fc⟩ : LRec).v = .slice fA t fc := by unfold LRec.v; rw [HFF.out.2.1]
                            have HPU := Lib.hid (HU.out.1.push (f := ⟨A3, fxs ++ [⟨rn, rt, rc, rl, rd⟩], c3⟩) (r := ⟨rn, rt, rc, rl, rd⟩) hj3 ⟨HU.out.2.2.1, HU.out.2.2.2⟩ hb14 (by rw [HFF.out.1]) (by rw [HFF.out.1, hvv]; show Sl w3 5 _ (fxs ++ [_]).length _; rw [hl1, ← flatV_one (vs := RRec.vs)]; exact hs3) (by rw [HFF.out.1, hfv]; exact hg3) (by rw [HFF.out.1, hvv, hfv]; exact hv3))
                            have hkm : w3.heap[mb]? = U.heap[mb]? := by
                              have h1 := hg3.block mb (Nat.lt_of_lt_of_le HFF.out.2.2.2.2.1.lt hb4.size) (fun e => by have h2 := (HU.out.1.ls (3 + j) (by omega) (by omega)).own mb (by rw [HFF.out.1]; show (Value.slice fA fxs.length fc).ownBlock = _; rw [HFF.out.2.1]; exact e.symm); have := HU.out.1.o; omega)
                              exact h1.trans (hb4.block mb HFF.out.2.2.2.2.1.lt)
                            have hb3 : Blk w3 mb 35 #[.int .u16 (headN s.data.toList 0 : Int), .int .u16 (headN s.data.toList 1 : Int), .slice A qs.length c, (F 3).v, (F 4).v, (F 5).v] := hkm.trans HFF.out.2.2.2.2.1
                            have c93 : w3.cell? ⟨mb, 3 + j, none⟩ = some (F (3 + j)).v := (hb3.cell (3 + j)).trans (msgC_at (by omega))
                            have f93 := hb3.frozen (3 + j)
                            clear hs3 hg3 hv3 hkm hb3 hs4 hb4 hb14 hi0 hz0 hz1 hz2
                            refine wpAnyC_ready (rs := [7]) (by kernel_rfl) (by simp) ?_
                            refine AllReadyC.cons rfl (fun K hK => ?_) AllReadyC.nil
                            go_simp
                            refine hK _ _ trivial ?_
                            clear hK K
                            refine wpAnyC_ready (rs := [8]) (by kernel_rfl) (by simp) ?_
                            refine AllReadyC.cons rfl (fun K hK => ?_) AllReadyC.nil
                            go_simp
                            refine hK _ _ trivial ?_
                            clear hK K c93 f93
                            refine wpAnyC_done (by kernel_rfl) ?_ _
                            dsimp only [calmQ]
                            gi_wp2_with (fail)
                            gi_roundg (cnt + 1 - (t + 1))
                            case measure => omega
                            case rel =>
                              have hp := HPU.out
                              rw [hvv] at hp
                              have ho9 := HU.out.1.o
                              have hsz0 := HS0.out.2
                              exact ⟨t + 1, q', _, by go_num, by omega, by omega, hp.1, HU.out.2.1.trans (hp.2 W0.heap.size (ab + 1) (by omega) (by omega) (by omega) (by omega))⟩
                          · skip
                            go_simp
                            refine hK _ _ trivial ?_
                            clear hK K
                            refine wpAnyC_ready (rs := [3]) (by kernel_rfl) (by simp) ?_
                            refine AllReadyC.cons rfl (fun K hK => ?_) AllReadyC.nil
                            have hbD : Below U.heap.size U (U.alloc (.cells #[.string rn, .int .u16 rt, .int .u16 rc, .int .u32 rl, .string rd] 85)) := (Below.refl _ _).alloc (Nat.le_refl _) _
                            have c93 := HCM.out.1 _ hbD
                            go_simp
                            refine hK _ _ trivial ?_
                            clear hK K
                            clear c93 hbD
                            refine wpAnyC_ready (rs := [6]) (by kernel_rfl) (by simp) ?_
                            refine AllReadyC.cons rfl (fun K hK => ?_) AllReadyC.nil
                            have hb4 : Below U.heap.size U (U.drew.alloc (.cells #[.string rn, .int .u16 rt, .int .u16 rc, .int .u32 rl, .string rd] 85)) := (Below.refl _ _).drew.alloc (Nat.le_refl _) _
                            have hb14 := HFF.out.2.2.1.trans (hb4.mono (Nat.le_of_lt hu1U))
                            obtain ⟨i0, hi0, hz0, hz1, hz2⟩ := info_parts info_rrE
                            have hs4 := HFF.out.2.2.2.2.2.below hb14 HFF.out.2.2.2.2.2.lt
                            have HSR := Lib.hid (src_rrE (P := Try.prog) Try.underlying33 U.drew 85 ⟨rn, rt, rc, rl, rd⟩)
                            refine stepIn_append_sl (by rfl) (.tmp 93) (.tmp 95) 33 33 rfl 85 i0 (.agg #[.string ⟨#[]⟩, .int .u16 0, .int .u16 0, .int .u32 0, .string ⟨#[]⟩]) 5 40 Try.underlying33 hi0 hz0 hz1 hz2 rfl (.slice fA t fc) t (flatV RRec.vs fxs) rfl hs4 _ rfl 1 (flatV RRec.vs [⟨rn, rt, rc, rl, rd⟩]) HSR.out (by unfold maxLen; omega) (by omega) ?_
                            intro v3 w3 hs3 hg3 hv3
                            obtain ⟨A3, c3, rfl, hc3, hm3⟩ := hs3.shape
                            refine hK _ _ trivial ?_
                            clear hK K
                            have hl1 : (fxs ++ [(⟨rn, rt, rc, rl, rd⟩ : RRec)]).length = t + 1 := by rw [List.length_append, HFF.out.2.1]; rfl
                            have hvv : (⟨A3, fxs ++ [⟨rn, rt, rc, rl, rd⟩], c3⟩ : LRec).v = .slice A3 (t + 1) c3 := by unfold LRec.v; rw [hl1]
                            have hfv : (⟨fA, fxs, fc⟩ : LRec).v = .slice fA t fc := by unfold LRec.v; rw [HFF.out.2.1]
                            have HPU := Lib.hid (HU.out.1.push (f := ⟨A3, fxs ++ [⟨rn, rt, rc, rl, rd⟩], c3⟩) (r := ⟨rn, rt, rc, rl, rd⟩) hj3 ⟨HU.out.2.2.1, HU.out.2.2.2⟩ hb14 (by rw [HFF.out.1]) (by rw [HFF.out.1, hvv]; show Sl w3 5 _ (fxs ++ [_]).length _; rw [hl1, ← flatV_one (vs := RRec.vs)]; exact hs3) (by rw [HFF.out.1, hfv]; exact hg3) (by rw [HFF.out.1, hvv, hfv]; exact hv3))
                            have hkm : w3.heap[mb]? = U.heap[mb]? := by
                              have h1 := hg3.block mb (Nat.lt_of_lt_of_le HFF.out.2.2.2.2.1.lt hb4.size) (fun e => by have h2 := (HU.out.1.ls (3 + j) (by omega) (by omega)).own mb (by rw [HFF.out.1]; show (Value.slice fA fxs.length fc).ownBlock = _; rw [HFF.out.2.1]; exact e.symm); have := HU.out.1.o; omega)
                              exact h1.trans (hb4.block mb HFF.out.2.2.2.2.1.lt)
                            have hb3 : Blk w3 mb 35 #[.int .u16 (headN s.data.toList 0 : Int), .int .u16 (headN s.data.toList 1 : Int), .slice A qs.length c, (F 3).v, (F 4).v, (F 5).v] := hkm.trans HFF.out.2.2.2.2.1
                            have c93 : w3.cell? ⟨mb, 3 + j, none⟩ = some (F (3 + j)).v := (hb3.cell (3 + j)).trans (msgC_at (by omega))
                            have f93 := hb3.frozen (3 + j)
                            clear hs3 hg3 hv3 hkm hb3 hs4 hb4 hb14 hi0 hz0 hz1 hz2
                            refine wpAnyC_ready (rs := [7]) (by kernel_rfl) (by simp) ?_
                            refine AllReadyC.cons rfl (fun K hK => ?_) AllReadyC.nil
                            go_simp
                            refine hK _ _ trivial ?_
                            clear hK K
                            refine wpAnyC_ready (rs := [8]) (by kernel_rfl) (by simp) ?_
                            refine AllReadyC.cons rfl (fun K hK => ?_) AllReadyC.nil
                            go_simp
                            refine hK _ _ trivial ?_
                            clear hK K c93 f93
                            refine wpAnyC_done (by kernel_rfl) ?_ _
                            dsimp only [calmQ]
                            gi_wp2_with (fail)
                            gi_roundg (cnt + 1 - (t + 1))
                            case measure => omega
                            case rel =>
                              have hp := HPU.out
                              rw [hvv] at hp
                              have ho9 := HU.out.1.o
                              have hsz0 := HS0.out.2
                              exact ⟨t + 1, q', _, by go_num, by omega, by omega, hp.1, HU.out.2.1.trans (hp.2 W0.heap.size (ab + 1) (by omega) (by omega) (by omega) (by omega))⟩
                      · dsimp only [rrZ]
                        have hr0 := (hk.blk HV.out.1.ms.r0 (by omega)).alloc (.cells #[.string ⟨#[]⟩, .int .u16 0, .int .u16 0, .int .u32 0, .string ⟨#[]⟩] 85)
                        have hr1 := (hk.blk HV.out.1.ms.r1 (by omega)).alloc (.cells #[.string ⟨#[]⟩, .int .u16 0, .int .u16 0, .int .u32 0, .string ⟨#[]⟩] 85)
                        have hkn : (k == 0) = false := by simpa using hk0
                        have q0 := hr0.cell 0
                        have q1 := hr0.cell 1
                        have q2 := hr0.cell 2
                        have q3 := hr0.cell 3
                        have q4 := hr0.cell 4
                        have q5 := hr0.cell 5
                        have q6 := hr1.cell 0
                        have f0 := hr0.frozen 0
                        have f1 := hr0.frozen 1
                        have f2 := hr0.frozen 2
                        have f3 := hr0.frozen 3
                        have f4 := hr0.frozen 4
                        have f5 := hr0.frozen 5
                        have f6 := hr1.frozen 0
                        have HK := Lib.hid (And.intro hk (And.intro hr0 (And.intro hr1 hk0)))
                        clear hk hr0 hr1 hk0 HR p0
                        gi_wp2_with (fail)
                        obtain ⟨hk, hr0, hr1, hk0⟩ := HK.out
                        have hd := res_done hr0 hr1 (.int .u16 0) (.int .u16 0) (.slice none 0 0) (.slice none 0 0) (.slice none 0 0) (.slice none 0 0) (.int .i64 k)
                        have hsz := hk.size
                        have hka : KeepK (fun i => i < u1.heap.size) u1 _ := (KeepK.refl (fun i => i < u1.heap.size) u1).alloc (fun i hi => hi) (.cells #[.string ⟨#[]⟩, .int .u16 0, .int .u16 0, .int .u32 0, .string ⟨#[]⟩] 85)
                        have hoo := HV.out.1.ms.o
                        have ho9 := HV.out.1.o
                        have hsz0 := HS0.out.2
                        have hboth := (KeepK.trans (KeepK.mono hk (K' := fun i => i < wr.heap.size ∧ i ≠ rb ∧ i ≠ w.heap.size ∧ i ≠ w.heap.size + 1) fun i hi => ⟨hi.1, hi.2.1⟩) (KeepK.mono hka fun i hi => Nat.lt_of_lt_of_le hi.1 hsz)).trans (KeepK.mono hd.2.2 fun i hi => hi.2.2)
                        refine ⟨HV.out.2.trans (KeepX.of_keepK hboth fun i hi hc => ⟨hi, by omega, by omega, by omega⟩), rfl, k, hk0, hd.1, hd.2.1, HV.out.1.ms.b.trans (hboth.below fun i hi => ⟨by have := HV.out.1.ms.b.size; omega, by omega, by omega, by omega⟩), fun hG => ?_⟩
                        have := hG.none (i := 3 + j) (by omega)
                        rw [HC.out] at this
                        omega
                    · obtain rfl : t = cnt := by omega
                      have f13 := hS.out.cn.frozen 0
                      have c13 := hS.out.cn.cell 0
                      have HV := Lib.hid (And.intro hS.out hKX.out)
                      clear hS hKX hlt c5
                      gi_wp2_with (fail)
                      have h1 := HV.out.1.next HC.out
                      have ho := HV.out.1.o
                      have hsz0 := HS0.out.2
                      refine ⟨HV.out.2.trans (.cell _ (by show (ab < _ ∨ _) ∧ (ab < _ ∨ _); omega)), F, q, ?_, hX⟩
                      rw [List.length_append, HP.out.2]
                      exact h1
                case hdone =>
                  rintro D X V hD hD2 ⟨F, q, hS, hX⟩ hK
                  have HLf := Lib.hid ((callsIn_wide (n := n - 1)).2 (rLeft_any hS.ms.rd hsp hS.ms.at_))
                  have p0 := hS.ms.pp.cell 0
                  obtain ⟨lf, hlf⟩ : ∃ lf : Nat, s.size - q = lf := ⟨_, rfl⟩
                  rw [hlf] at HLf
                  have HV := Lib.hid (And.intro hS (And.intro hX (And.intro hlf (And.intro hK hD))))
                  have hsz0 := HS0.out.2
                  clear hS hX hlf hK
                  gi_wp2_with (fail)
                  refine ⟨trivial, HLf.out.mono ?_⟩
                  rintro e V5 ⟨rfl, kd, rfl⟩
                  have hS5 := HV.out.1.keepK (KeepK.drewN (KeepK.refl (fun _ => True) V) kd) (fun _ _ _ => trivial)
                  have hK5 : (V.drewN kd).heap[D]? = some (.deferred (some [])) := HV.out.2.2.2.1
                  have hbx := hS5.bx
                  have q0 := hS5.ms.r0.cell 0
                  have q1 := hS5.ms.r0.cell 1
                  have q2 := hS5.ms.r0.cell 2
                  have q3 := hS5.ms.r0.cell 3
                  have q4 := hS5.ms.r0.cell 4
                  have q5 := hS5.ms.r0.cell 5
                  have q6 := hS5.ms.r1.cell 0
                  have f0 := hS5.ms.r0.frozen 0
                  have f1 := hS5.ms.r0.frozen 1
                  have f2 := hS5.ms.r0.frozen 2
                  have f3 := hS5.ms.r0.frozen 3
                  have f4 := hS5.ms.r0.frozen 4
                  have f5 := hS5.ms.r0.frozen 5
                  have f6 := hS5.ms.r1.frozen 0
                  have m0 := hbx.cell 0
                  have m1 := hbx.cell 1
                  have m2 := hbx.cell 2
                  obtain ⟨a3, x3, c3, hF3⟩ : ∃ a3 x3 c3, F 3 = (⟨a3, x3, c3⟩ : LRec) := ⟨_, _, _, rfl⟩
                  obtain ⟨a4, x4, c4, hF4⟩ : ∃ a4 x4 c4, F 4 = (⟨a4, x4, c4⟩ : LRec) := ⟨_, _, _, rfl⟩
                  obtain ⟨a5, x5, c5, hF5⟩ : ∃ a5 x5 c5, F 5 = (⟨a5, x5, c5⟩ : LRec) := ⟨_, _, _, rfl⟩
                  rw [hF3, hF4, hF5] at hbx
                  have m3 : (V.drewN kd).cell? ⟨mb, 3, none⟩ = some (.slice a3 x3.length c3) := hbx.cell 3
                  have m4 : (V.drewN kd).cell? ⟨mb, 4, none⟩ = some (.slice a4 x4.length c4) := hbx.cell 4
                  have m5 : (V.drewN kd).cell? ⟨mb, 5, none⟩ = some (.slice a5 x5.length c5) := hbx.cell 5
                  have HF := Lib.hid (And.intro hF3 (And.intro hF4 hF5))
                  have hoX := hS5.o
                  have HS5 := Lib.hid (And.intro hS5 hK5)
                  clear HLf p0 hS5 hK5 hbx hF3 hF4 hF5
                  generalize V.drewN kd = V5 at *
                  by_cases hl0 : 0 < lf
                  · have hl0I : (0 : Int) < (lf : Int) := by omega
                    gi_wp2_with (fail)
                    obtain ⟨hS5, hK5⟩ := HS5.out
                    have hd := hS5.ms.done (.int .u16 0) (.int .u16 0) (.slice none 0 0) (.slice none 0 0) (.slice none 0 0) (.slice none 0 0) (.int .i64 6)
                    generalize ((((((V5.setCell ⟨w.heap.size, 0, none⟩ (.int .u16 0)).setCell ⟨w.heap.size, 1, none⟩ (.int .u16 0)).setCell ⟨w.heap.size, 2, none⟩ (.slice none 0 0)).setCell ⟨w.heap.size, 3, none⟩ (.slice none 0 0)).setCell ⟨w.heap.size, 4, none⟩ (.slice none 0 0)).setCell ⟨w.heap.size, 5, none⟩ (.slice none 0 0)).setCell ⟨w.heap.size + 1, 0, none⟩ (.int .i64 6) = Z at hd ⊢
                    have hKZ : Z.heap[D]? = some (.deferred (some [])) := (hd.2.2.2.block D ⟨by omega, by omega⟩).trans hK5
                    have b0 : Blk (Z.putObj D (.deferred none)) w.heap.size 35 _ := (World.putObj_heap_other (by omega)).trans hd.1
                    have b1 : Blk (Z.putObj D (.deferred none)) (w.heap.size + 1) 28 _ := (World.putObj_heap_other (by omega)).trans hd.2.1
                    refine ⟨by simp, .inl ⟨_, _, rfl, run_takeDeferred hKZ, _, res_cell_cellE rfl _ _ w.heap.size 35 _ _ ⟨w.heap.size + 1, 0, none⟩ (.int .i64 6) rfl b0 Try.underlying35 rfl agg_msg rfl (load_errno _ _ _ (b1.cell 0)), hd.2.2.1.trans (belowK_b (w := w) (Nat.le_refl _) Z D _ _ (by omega) hKZ rfl rfl), .inl ⟨6, by decide, rfl, fun hG => ?_⟩⟩⟩
                    have hst := hS5.pl hG
                    injection hst with hst _
                    obtain ⟨q0, _, g2, _, _, _, hq0⟩ := hG
                    have hql : qs.length = 1 := by rw [HQ.out.1, ← HN2.out]; exact g2
                    obtain ⟨q1, rfl⟩ : ∃ q1, qs = [q1] := List.length_eq_one_iff.1 hql
                    rw [hS5.ask.one] at hq0
                    injection hq0 with hq0
                    injection hq0 with _ hq0
                    have := HV.out.2.2.1
                    omega
                  · have hl0I : ¬ (0 : Int) < (lf : Int) := by omega
                    gi_wp2_with (fail)
                    obtain ⟨hS5, hK5⟩ := HS5.out
                    obtain ⟨hF3, hF4, hF5⟩ := HF.out
                    have hd := hS5.ms.done (.int .u16 (headN s.data.toList 0 : Int)) (.int .u16 (headN s.data.toList 1 : Int)) (.slice A qs.length c) (.slice a3 x3.length c3) (.slice a4 x4.length c4) (.slice a5 x5.length c5) (.int .i64 0)
                    rw [HQ.out.1] at hd
                    generalize ((((((V5.setCell ⟨w.heap.size, 0, none⟩ (.int .u16 (headN s.data.toList 0 : Int))).setCell ⟨w.heap.size, 1, none⟩ (.int .u16 (headN s.data.toList 1 : Int))).setCell ⟨w.heap.size, 2, none⟩ (.slice A k c)).setCell ⟨w.heap.size, 3, none⟩ (.slice a3 x3.length c3)).setCell ⟨w.heap.size, 4, none⟩ (.slice a4 x4.length c4)).setCell ⟨w.heap.size, 5, none⟩ (.slice a5 x5.length c5)).setCell ⟨w.heap.size + 1, 0, none⟩ (.int .i64 0) = Z at hd ⊢
                    have hKZ : Z.heap[D]? = some (.deferred (some [])) := (hd.2.2.2.block D ⟨by omega, by omega⟩).trans hK5
                    have b0 : Blk (Z.putObj D (.deferred none)) w.heap.size 35 _ := (World.putObj_heap_other (by omega)).trans hd.1
                    have b1 : Blk (Z.putObj D (.deferred none)) (w.heap.size + 1) 28 _ := (World.putObj_heap_other (by omega)).trans hd.2.1
                    have h3 := hS5.ls 3 (by omega) (by omega)
                    have h4 := hS5.ls 4 (by omega) (by omega)
                    have h5 := hS5.ls 5 (by omega) (by omega)
                    have n3 := hS5.len 3 (by omega) (by omega)
                    have n4 := hS5.len 4 (by omega) (by omega)
                    have n5 := hS5.len 5 (by omega) (by omega)
                    rw [hF3] at h3 n3
                    rw [hF4] at h4 n4
                    rw [hF5] at h5 n5
                    have hkk : KeepK (fun i => i ≠ w.heap.size ∧ i ≠ w.heap.size + 1 ∧ i ≠ D) V5 (Z.putObj D (.deferred none)) := (hd.2.2.2.mono fun i hi => ⟨hi.1, hi.2.1⟩).trans ⟨rfl, rfl, rfl, by simp, fun i hi => World.putObj_heap_other hi.2.2⟩
                    have hms := hS5.ms.o
                    refine ⟨by simp, .inl ⟨_, _, rfl, run_takeDeferred hKZ, _, res_cell_cellE rfl _ _ w.heap.size 35 _ _ ⟨w.heap.size + 1, 0, none⟩ (.int .i64 0) rfl b0 Try.underlying35 rfl agg_msg rfl (load_errno _ _ _ (b1.cell 0)), hd.2.2.1.trans (belowK_b (w := w) (Nat.le_refl _) Z D _ _ (by omega) hKZ rfl rfl), .inr ⟨⟨headN s.data.toList 0, headN s.data.toList 1, A, qs, c, a3, x3, c3, a4, x4, c4, a5, x5, c5⟩, ?_, ?_, ?_, hS5.sq.keepK hkk (fun g hg => by have := hS5.oq g hg; omega), fun g hg => by have := hS5.oq g hg; omega⟩⟩⟩
                    · rw [← HQ.out.1]; rfl
                    · have hr : ∀ (a9 : Option Addr) (x9 : List RRec) (c9 : Nat), RecL V5 X ⟨a9, x9, c9⟩ → RTab (Z.putObj D (.deferred none)) a9 x9 := fun a9 x9 c9 h => rtab_of_sl (c := c9) ((show Sl V5 5 (.slice a9 x9.length c9) x9.length (flatV RRec.vs x9) from h.sl).keepK hkk fun g hg => by have := h.own g hg; omega)
                      exact ⟨GTab.of_sl QRec.three (c := c) (hS5.sq.keepK hkk fun g hg => by have := hS5.oq g hg; omega), hr _ _ _ h3, hr _ _ _ h4, hr _ _ _ h5⟩
                    · obtain ⟨_, _, e1, e2, e3⟩ := hS5.sq.shape
                      injection e1 with _ _ e1
                      obtain ⟨_, _, e4, e5, e6⟩ := h5.sl.shape
                      have e4' : (Value.slice a5 x5.length c5) = _ := e4
                      injection e4' with _ _ e4'
                      have hN : ∀ i, i < 4 → headN s.data.toList (2 + i) ≤ 4096 := HALL.out
                      have n3' : x3.length = headN s.data.toList 3 := n3
                      have n4' : x4.length = headN s.data.toList 4 := n4
                      have n5' : x5.length = headN s.data.toList 5 := n5
                      have nq : qs.length = headN s.data.toList 2 := by rw [HQ.out.1, ← HN2.out]
                      have z2 : headN s.data.toList 2 ≤ 4096 := hN 0 (by omega)
                      have z3 : headN s.data.toList 3 ≤ 4096 := hN 1 (by omega)
                      have z4 : headN s.data.toList 4 ≤ 4096 := hN 2 (by omega)
                      have z5 : headN s.data.toList 5 ≤ 4096 := hN 3 (by omega)
                      exact ⟨rfl, rfl, ⟨_, hS5.ask⟩, nq, n3', n4', n5', ⟨by show qs.length ≤ _; omega, by show qs.length ≤ c; omega, by show c ≤ _; omega⟩, by show x3.length ≤ _; omega, by show x4.length ≤ _; omega, ⟨by show x5.length ≤ _; omega, by show x5.length ≤ c5; omega, by show c5 ≤ _; omega⟩, h5.ok⟩
                case hstop =>
                  rintro D X cd pre V hD hD2 hpre ⟨rfl, k, hk0, h0, h1, h2, h3⟩ hK
                  have HK := Lib.hid (And.intro hk0 (And.intro h0 (And.intro h1 (And.intro h2 (And.intro h3 (And.intro hK hD))))))
                  have hsz0 := HS0.out.2
                  clear h0 h1 h2 h3 hK hk0
                  gi_wp2_with (fail)
                  obtain ⟨hk0, h0, h1, h2, h3, hK, hD'⟩ := HK.out
                  have b0 : Blk (V.putObj D (.deferred none)) w.heap.size 35 _ := (World.putObj_heap_other (by omega)).trans h0
                  have b1 : Blk (V.putObj D (.deferred none)) (w.heap.size + 1) 28 _ := (World.putObj_heap_other (by omega)).trans h1
                  exact ⟨by simp, .inl ⟨_, _, rfl, run_takeDeferred hK, _, res_cell_cellE rfl _ _ w.heap.size 35 _ _ ⟨w.heap.size + 1, 0, none⟩ (.int .i64 k) rfl b0 Try.underlying35 rfl agg_msg rfl (load_errno _ _ _ (b1.cell 0)), h2.trans (belowK_b (w := w) (Nat.le_refl _) V D _ _ (by omega) hK rfl rfl), .inl ⟨k, hk0, rfl, h3⟩⟩⟩
end Go.Proofs.Ytgfpnkakglgokaa
