/- Records (api.RR), questions (api.Question) in memory, and a message (api.Msg) among the arguments, opened. Conditions: none. A record (api.RR) among the arguments, opened. Conditions: none. A zone (api.Zone) among the arguments, opened. Conditions: none. -/
import Derived.Test.YthnngndnpigjbaaGreatRes
import Derived.Test.YthnngndnpigjbaaGreatOpenQ
namespace Go.Proofs.YthnngndnpigjbaaGreat
open Go.Joins Go.ChangeShapes Go.WideShapes Go.RowKit Go.Deep

/-- A record: a name, a type, a class, how long it lives, its data. -/
structure RRec where
  n : ByteArray
  t : Int
  c : Int
  l : Int
  d : ByteArray
def RRec.vs (r : RRec) : List Value := [.string r.n, .int .u16 r.t, .int .u16 r.c, .int .u32 r.l, .string r.d]
/-- As one value. -/
def RRec.val (r : RRec) : Value := .agg #[.string r.n, .int .u16 r.t, .int .u16 r.c, .int .u32 r.l, .string r.d]
def RRec.ok (r : RRec) : Prop := (r.n.size ≤ maxLen ∧ r.d.size ≤ maxLen) ∧ (0 ≤ r.t ∧ r.t ≤ 65535) ∧ (0 ≤ r.c ∧ r.c ≤ 65535) ∧ 0 ≤ r.l ∧ r.l ≤ 4294967295
theorem RRec.five (r : RRec) : r.vs.length = 5 := rfl
/-- A question. -/
structure QRec where
  n : ByteArray
  t : Int
  c : Int
def QRec.vs (r : QRec) : List Value := [.string r.n, .int .u16 r.t, .int .u16 r.c]
def QRec.ok (r : QRec) : Prop := r.n.size ≤ maxLen ∧ (0 ≤ r.t ∧ r.t ≤ 65535) ∧ 0 ≤ r.c ∧ r.c ≤ 65535
theorem QRec.three (r : QRec) : r.vs.length = 3 := rfl
/-- A slice that reads as records. -/
def RTab (w : World) (A : Option Addr) (xs : List RRec) : Prop := GTab RRec.vs 5 w A xs
def QTabl (w : World) (A : Option Addr) (xs : List QRec) : Prop := GTab QRec.vs 3 w A xs
theorem RTab.below {w w' : World} {A : Option Addr} {xs : List RRec} (h : RTab w A xs) (hb : Below w.heap.size w w') : RTab w' A xs := GTab.below h hb
theorem QTabl.below {w w' : World} {A : Option Addr} {xs : List QRec} (h : QTabl w A xs) (hb : Below w.heap.size w w') : QTabl w' A xs := GTab.below h hb
theorem RTab.nil_ {w : World} {A : Option Addr} : RTab w A [] := GTab.nil_
theorem rtab_of_sl {w : World} {A : Option Addr} {c : Nat} {xs : List RRec} (h : Sl w 5 (.slice A xs.length c) xs.length (flatV RRec.vs xs)) : RTab w A xs := GTab.of_sl RRec.five h
/-- The cells of a record in its list. -/
theorem RTab.cells {w : World} {A : Option Addr} {xs : List RRec} (h : RTab w A xs) {k : Nat} {e : RRec} (he : xs[k]? = some e) : ∃ b off, A = some ⟨b, off, none⟩ ∧ b < w.heap.size ∧
    w.cell? ⟨b, off + k * 5, none⟩ = some (.string e.n) ∧ w.cell? ⟨b, off + k * 5 + 1, none⟩ = some (.int .u16 e.t) ∧ w.cell? ⟨b, off + k * 5 + 2, none⟩ = some (.int .u16 e.c) ∧ w.cell? ⟨b, off + k * 5 + 3, none⟩ = some (.int .u32 e.l) ∧ w.cell? ⟨b, off + k * 5 + 4, none⟩ = some (.string e.d) := by
  obtain ⟨b, off, hA, hb, hc⟩ := h (by have := (List.getElem?_eq_some_iff.1 he).1; omega)
  exact ⟨b, off, hA, hb, hc k e he 0 _ rfl, hc k e he 1 _ rfl, hc k e he 2 _ rfl, hc k e he 3 _ rfl, hc k e he 4 _ rfl⟩
theorem RTab.low {w : World} {A : Option Addr} {xs : List RRec} (h : RTab w A xs) (hp : 0 < xs.length) : ∀ a, A = some a → a.block < w.heap.size := by
  obtain ⟨b, off, hA, hb, _⟩ := h hp
  rintro a rfl
  injection hA with hA
  rw [hA]
  exact hb
theorem QTabl.cells {w : World} {A : Option Addr} {xs : List QRec} (h : QTabl w A xs) {k : Nat} {e : QRec} (he : xs[k]? = some e) : ∃ b off, A = some ⟨b, off, none⟩ ∧ b < w.heap.size ∧
    w.cell? ⟨b, off + k * 3, none⟩ = some (.string e.n) ∧ w.cell? ⟨b, off + k * 3 + 1, none⟩ = some (.int .u16 e.t) ∧ w.cell? ⟨b, off + k * 3 + 2, none⟩ = some (.int .u16 e.c) := by
  obtain ⟨b, off, hA, hb, hc⟩ := h (by have := (List.getElem?_eq_some_iff.1 he).1; omega)
  exact ⟨b, off, hA, hb, hc k e he 0 _ rfl, hc k e he 1 _ rfl, hc k e he 2 _ rfl⟩

theorem rr_cells : Tryz.prog.cellsOf 33 = 5 := by kernel_rfl
theorem msg_cells : Tryz.prog.cellsOf 49 = 6 := by kernel_rfl

/-- A table that is read off, element by element. -/
theorem gtab_of_each {α : Type} {vs : α → List Value} {k len : Nat} {W : World} {a : Addr} {ok : α → Prop} (hk : ∀ e, (vs e).length = k) (hp : 0 < k) (each : ∀ j, j < len → ∃ e : α, ok e ∧ ∀ i u, (vs e)[i]? = some u → W.cell? (a.add (j * k + i)) = some u) :
    ∃ xs : List α, xs.length = len ∧ GTab vs k W (some a) xs ∧ ∀ e ∈ xs, ok e := by
  obtain ⟨xs, hxl, hxs⟩ : ∃ xs : List α, xs.length = len ∧ ∀ (j : Nat) (e : α), xs[j]? = some e → ok e ∧ ∀ i u, (vs e)[i]? = some u → W.cell? (a.add (j * k + i)) = some u := by
    refine ⟨(List.range len).pmap (fun j hj => Classical.choose (each j hj)) (fun j hj => List.mem_range.1 hj), by simp, fun j e he => ?_⟩
    obtain ⟨hj, rfl⟩ := List.getElem?_eq_some_iff.1 he
    simp only [List.getElem_pmap, List.getElem_range]
    simp at hj
    exact Classical.choose_spec (each j hj)
  refine ⟨xs, hxl, fun hx => ?_, fun e he => ?_⟩
  · obtain ⟨b, off, spot⟩ := a
    have h0 : (vs xs[0])[0]? = some ((vs xs[0])[0]'(by rw [hk]; exact hp)) := List.getElem?_eq_getElem (by rw [hk]; exact hp)
    have h00 := (hxs 0 xs[0] (List.getElem?_eq_getElem hx)).2 0 _ h0
    have hspot : spot = none := by simpa [Addr.add] using World.cell?_spot h00
    subst hspot
    refine ⟨b, off, rfl, by have := cell_lt h00; simpa [Addr.add] using this, fun j e he i u hu => ?_⟩
    have := (hxs j e he).2 i u hu
    have ea : (⟨b, off, none⟩ : Addr).add (j * k + i) = ⟨b, off + j * k + i, none⟩ := by unfold Addr.add; split <;> simp_all <;> omega
    rw [ea] at this
    exact this
  · obtain ⟨j, hj, rfl⟩ := List.getElem_of_mem he
    exact (hxs j _ (List.getElem?_eq_getElem hj)).1

section
variable {H : Type} {enc : TypeId × Value → H} {W : World} {base : Nat} {spare : Nat → Bool} {held : Bool}
theorem trod_rrs {n : Nat} {v : Value} {y : DataW H × List MemPlace} (h : DataW.trod enc Tryz.prog W base spare held n 22 [v] = some y) :
    ∃ (A : Option Addr) (xs : List RRec) (c : Nat), v = .slice A xs.length c ∧ RTab W A xs ∧ (∀ e ∈ xs, e.ok) ∧ xs.length ≤ c ∧ c ≤ maxLen := by
  rcases open_slice_fields Tryz.underlying22 Tryz.underlying33 (by kernel_rfl) rr_cells h with ⟨e1, _⟩ | ⟨a, len, cap, m, D, Pl, e1, _, hl, hm, hmm, _, hf⟩
  · simp at e1
    subst e1
    exact ⟨none, [], 0, rfl, GTab.nil_, fun _ hx => absurd hx (by simp), Nat.le_refl _, Nat.zero_le _⟩
  · simp at e1
    subst e1
    have hlm : len ≤ m := by rw [hmm]; split <;> omega
    have each : ∀ j, j < len → ∃ e : RRec, e.ok ∧ ∀ i u, e.vs[i]? = some u → W.cell? (a.add (j * 5 + i)) = some u := by
      intro j hj
      obtain ⟨ys, n', _, _, _, hc⟩ := hf j (by omega)
      obtain ⟨u0, z0, k0, _, t0⟩ := hc 0 _ rfl
      obtain ⟨u1, z1, k1, _, t1⟩ := hc 1 _ rfl
      obtain ⟨u2, z2, k2, _, t2⟩ := hc 2 _ rfl
      obtain ⟨u3, z3, k3, _, t3⟩ := hc 3 _ rfl
      obtain ⟨u4, z4, k4, _, t4⟩ := hc 4 _ rfl
      obtain ⟨s0, q0, _, w0⟩ := DataW.trod_string Tryz.underlying9 t0
      obtain ⟨m1, q1, _, w1⟩ := DataW.trod_int Tryz.underlying30 t1
      obtain ⟨m2, q2, _, w2⟩ := DataW.trod_int Tryz.underlying29 t2
      obtain ⟨m3, q3, _, w3⟩ := DataW.trod_int Tryz.underlying31 t3
      obtain ⟨s4, q4, _, w4⟩ := DataW.trod_string Tryz.underlying9 t4
      simp at q0 q1 q2 q3 q4
      subst q0 q1 q2 q3 q4
      refine ⟨⟨s0, m1, m2, m3, s4⟩, ⟨⟨w0, w4⟩, wf_u16 w1, wf_u16 w2, wf_u32 w3⟩, fun i u hu => ?_⟩
      match i, hu with
      | 0, hu => simp [RRec.vs] at hu; subst hu; exact k0
      | 1, hu => simp [RRec.vs] at hu; subst hu; exact k1
      | 2, hu => simp [RRec.vs] at hu; subst hu; exact k2
      | 3, hu => simp [RRec.vs] at hu; subst hu; exact k3
      | 4, hu => simp [RRec.vs] at hu; subst hu; exact k4
      | i + 5, hu => simp [RRec.vs] at hu
    obtain ⟨xs, rfl, h1, h2⟩ := gtab_of_each RRec.five (by decide) each
    exact ⟨some a, xs, cap, rfl, h1, h2, hl, hm⟩
theorem trod_qs {n : Nat} {v : Value} {y : DataW H × List MemPlace} (h : DataW.trod enc Tryz.prog W base spare held n 47 [v] = some y) :
    ∃ (A : Option Addr) (xs : List QRec) (c : Nat), v = .slice A xs.length c ∧ QTabl W A xs ∧ (∀ e ∈ xs, e.ok) ∧ xs.length ≤ c ∧ c ≤ maxLen := by
  rcases open_slice_fields Tryz.underlying47 Tryz.underlying40 (by kernel_rfl) question_cells h with ⟨e1, _⟩ | ⟨a, len, cap, m, D, Pl, e1, _, hl, hm, hmm, _, hf⟩
  · simp at e1
    subst e1
    exact ⟨none, [], 0, rfl, GTab.nil_, fun _ hx => absurd hx (by simp), Nat.le_refl _, Nat.zero_le _⟩
  · simp at e1
    subst e1
    have hlm : len ≤ m := by rw [hmm]; split <;> omega
    have each : ∀ j, j < len → ∃ e : QRec, e.ok ∧ ∀ i u, e.vs[i]? = some u → W.cell? (a.add (j * 3 + i)) = some u := by
      intro j hj
      obtain ⟨ys, n', _, _, _, hc⟩ := hf j (by omega)
      obtain ⟨u0, z0, k0, _, t0⟩ := hc 0 _ rfl
      obtain ⟨u1, z1, k1, _, t1⟩ := hc 1 _ rfl
      obtain ⟨u2, z2, k2, _, t2⟩ := hc 2 _ rfl
      obtain ⟨s0, q0, _, w0⟩ := DataW.trod_string Tryz.underlying9 t0
      obtain ⟨m1, q1, _, w1⟩ := DataW.trod_int Tryz.underlying30 t1
      obtain ⟨m2, q2, _, w2⟩ := DataW.trod_int Tryz.underlying29 t2
      simp at q0 q1 q2
      subst q0 q1 q2
      refine ⟨⟨s0, m1, m2⟩, ⟨w0, wf_u16 w1, wf_u16 w2⟩, fun i u hu => ?_⟩
      match i, hu with
      | 0, hu => simp [QRec.vs] at hu; subst hu; exact k0
      | 1, hu => simp [QRec.vs] at hu; subst hu; exact k1
      | 2, hu => simp [QRec.vs] at hu; subst hu; exact k2
      | i + 3, hu => simp [QRec.vs] at hu
    obtain ⟨xs, rfl, h1, h2⟩ := gtab_of_each QRec.three (by decide) each
    exact ⟨some a, xs, cap, rfl, h1, h2, hl, hm⟩
end
theorem array6' {α : Type} {cs : Array α} (h : cs.size = 6) : ∃ c0 c1 c2 c3 c4 c5, cs = #[c0, c1, c2, c3, c4, c5] := by
  obtain ⟨l⟩ := cs
  match l, h with
  | [c0, c1, c2, c3, c4, c5], _ => exact ⟨c0, c1, c2, c3, c4, c5, rfl⟩
/-- A list that is handed in. -/
structure LRec where
  A : Option Addr
  xs : List RRec
  c : Nat
def LRec.v (l : LRec) : Value := .slice l.A l.xs.length l.c
/-- A message as it lies in memory. -/
structure MRec where
  id : Int
  bi : Int
  qA : Option Addr
  q : List QRec
  qc : Nat
  sA : Option Addr
  s : List RRec
  sc : Nat
  hA : Option Addr
  h : List RRec
  hc : Nat
  eA : Option Addr
  e : List RRec
  ec : Nat
def MRec.val (m : MRec) : Value := .agg #[.int .u16 m.id, .int .u16 m.bi, .slice m.qA m.q.length m.qc, .slice m.sA m.s.length m.sc, .slice m.hA m.h.length m.hc, .slice m.eA m.e.length m.ec]
structure MRec.In (m : MRec) (w : World) : Prop where
  tq : QTabl w m.qA m.q
  ts : RTab w m.sA m.s
  th : RTab w m.hA m.h
  te : RTab w m.eA m.e
structure MRec.Ok (m : MRec) : Prop where
  oid : 0 ≤ m.id ∧ m.id ≤ 65535
  obi : 0 ≤ m.bi ∧ m.bi ≤ 65535
  oq : ∀ e ∈ m.q, e.ok
  os : ∀ e ∈ m.s, e.ok
  oh : ∀ e ∈ m.h, e.ok
  oe : ∀ e ∈ m.e, e.ok
  lq : m.q.length ≤ m.qc ∧ m.qc ≤ maxLen
  ls : m.s.length ≤ m.sc ∧ m.sc ≤ maxLen
  lh : m.h.length ≤ m.hc ∧ m.hc ≤ maxLen
  le : m.e.length ≤ m.ec ∧ m.ec ≤ maxLen
theorem MRec.In.below {m : MRec} {w w' : World} (h : m.In w) (hb : Below w.heap.size w w') : m.In w' := ⟨h.tq.below hb, h.ts.below hb, h.th.below hb, h.te.below hb⟩
set_option maxRecDepth 100000 in
theorem open_msg {H : Type} {enc : TypeId × Value → H} {W : World} {base b0 : Nat} {r : Reach} {spare : Nat → Bool} {held : Bool} {v : Value} {d : DataW H} {p : List MemPlace}
    (hv : Value.okWide Tryz.prog W r b0 49 v) (h : DataW.Trod enc Tryz.prog W base spare held 49 v d p) :
    ∃ m : MRec, v = m.val ∧ m.In W ∧ m.Ok := by
  obtain ⟨cs, rfl, hcs, hall⟩ := open_fields' Tryz.underlying49 (by kernel_rfl) msg_cells hv h
  obtain ⟨c0, c1, c2, c3, c4, c5, rfl⟩ := array6' hcs
  obtain ⟨v0, y0, m0, e0, h0⟩ := hall 0 _ rfl
  obtain ⟨v1, y1, m1, e1, h1⟩ := hall 1 _ rfl
  obtain ⟨v2, y2, m2, e2, h2⟩ := hall 2 _ rfl
  obtain ⟨v3, y3, m3, e3, h3⟩ := hall 3 _ rfl
  obtain ⟨v4, y4, m4, e4, h4⟩ := hall 4 _ rfl
  obtain ⟨v5, y5, m5, e5, h5⟩ := hall 5 _ rfl
  simp at e0 e1 e2 e3 e4 e5
  subst e0 e1 e2 e3 e4 e5
  obtain ⟨n0, q0, _, w0⟩ := DataW.trod_int Tryz.underlying29 h0
  obtain ⟨n1, q1, _, w1⟩ := DataW.trod_int Tryz.underlying29 h1
  simp at q0 q1
  subst q0 q1
  obtain ⟨qA, q, qc, rfl, tq, oq, lq, mq⟩ := trod_qs h2
  obtain ⟨sA, s, sc, rfl, ts, os, ls, ms⟩ := trod_rrs h3
  obtain ⟨hA, hh, hc, rfl, th, oh, lh, mh⟩ := trod_rrs h4
  obtain ⟨eA, ee, ec, rfl, te, oe, le, me⟩ := trod_rrs h5
  exact ⟨⟨n0, n1, qA, q, qc, sA, s, sc, hA, hh, hc, eA, ee, ec⟩, rfl, ⟨tq, ts, th, te⟩, ⟨wf_u16 w0, wf_u16 w1, oq, os, oh, oe, ⟨lq, mq⟩, ⟨ls, ms⟩, ⟨lh, mh⟩, ⟨le, me⟩⟩⟩
end Go.Proofs.YthnngndnpigjbaaGreat

namespace Go.Proofs.YthnngndnpigjbaaGreat
open Go.Joins Go.ChangeShapes Go.WideShapes Go.RowKit Go.Deep

theorem array5r {α : Type} {cs : Array α} (h : cs.size = 5) : ∃ c0 c1 c2 c3 c4, cs = #[c0, c1, c2, c3, c4] := by
  obtain ⟨l⟩ := cs
  match l, h with
  | [c0, c1, c2, c3, c4], _ => exact ⟨c0, c1, c2, c3, c4, rfl⟩
set_option maxRecDepth 100000 in
theorem open_rr {H : Type} {enc : TypeId × Value → H} {W : World} {base b0 : Nat} {r : Reach} {spare : Nat → Bool} {held : Bool} {v : Value} {d : DataW H} {p : List MemPlace}
    (hv : Value.okWide Tryz.prog W r b0 33 v) (h : DataW.Trod enc Tryz.prog W base spare held 33 v d p) :
    ∃ m : RRec, v = m.val ∧ m.ok := by
  obtain ⟨cs, rfl, hcs, hall⟩ := open_fields' Tryz.underlying33 (by kernel_rfl) rr_cells hv h
  obtain ⟨c0, c1, c2, c3, c4, rfl⟩ := array5r hcs
  obtain ⟨v0, y0, m0, e0, h0⟩ := hall 0 _ rfl
  obtain ⟨v1, y1, m1, e1, h1⟩ := hall 1 _ rfl
  obtain ⟨v2, y2, m2, e2, h2⟩ := hall 2 _ rfl
  obtain ⟨v3, y3, m3, e3, h3⟩ := hall 3 _ rfl
  obtain ⟨v4, y4, m4, e4, h4⟩ := hall 4 _ rfl
  simp at e0 e1 e2 e3 e4
  subst e0 e1 e2 e3 e4
  obtain ⟨s0, q0, _, w0⟩ := DataW.trod_string Tryz.underlying9 h0
  obtain ⟨n1, q1, _, w1⟩ := DataW.trod_int Tryz.underlying30 h1
  obtain ⟨n2, q2, _, w2⟩ := DataW.trod_int Tryz.underlying29 h2
  obtain ⟨n3, q3, _, w3⟩ := DataW.trod_int Tryz.underlying31 h3
  obtain ⟨s4, q4, _, w4⟩ := DataW.trod_string Tryz.underlying9 h4
  simp at q0 q1 q2 q3 q4
  subst q0 q1 q2 q3 q4
  exact ⟨⟨s0, n1, n2, n3, s4⟩, rfl, ⟨w0, w4⟩, wf_u16 w1, wf_u16 w2, wf_u32 w3⟩
end Go.Proofs.YthnngndnpigjbaaGreat

namespace Go.Proofs.YthnngndnpigjbaaGreat
open Go.Joins Go.ChangeShapes Go.WideShapes Go.ChangeAt Go.RowKit Go.Deep

theorem zone_cells : Tryz.prog.cellsOf 24 = 2 := by kernel_rfl
theorem array2z {α : Type} {cs : Array α} (h : cs.size = 2) : ∃ c0 c1, cs = #[c0, c1] := by
  obtain ⟨l⟩ := cs
  match l, h with
  | [c0, c1], _ => exact ⟨c0, c1, rfl⟩
set_option maxRecDepth 100000 in
theorem open_zone {H : Type} {enc : TypeId × Value → H} {W : World} {base : Nat} {spare : Nat → Bool} {held : Bool} {b0 : Nat} {r : Reach} {v : Value} {d : DataW H} {p : List MemPlace}
    (hv : Value.okWide Tryz.prog W r b0 24 v) (h : DataW.Trod enc Tryz.prog W base spare held 24 v d p) :
    ∃ (z : ByteArray) (A : Option Addr) (xs : List RRec) (c : Nat), v = .agg #[.string z, .slice A xs.length c] ∧ z.size ≤ maxLen ∧ RTab W A xs ∧ (∀ e ∈ xs, e.ok) ∧ xs.length ≤ c ∧ c ≤ maxLen := by
  obtain ⟨cs, rfl, hcs, hall⟩ := open_fields' Tryz.underlying24 (by kernel_rfl) zone_cells hv h
  obtain ⟨c0, c1, rfl⟩ := array2z hcs
  obtain ⟨v0, y0, m0, e0, h0⟩ := hall 0 _ rfl
  obtain ⟨v1, y1, m1, e1, h1⟩ := hall 1 _ rfl
  simp at e0 e1
  subst e0 e1
  obtain ⟨z, q0, _, w0⟩ := DataW.trod_string Tryz.underlying9 h0
  simp at q0
  subst q0
  obtain ⟨A, xs, c, rfl, t1, t2, t3, t4⟩ := trod_rrs h1
  exact ⟨z, A, xs, c, rfl, w0, t1, t2, t3, t4⟩
end Go.Proofs.YthnngndnpigjbaaGreat
