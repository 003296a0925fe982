/- The walk of edns.Put. Conditions: none. -/
import Derived.Test.YthjkdpphbipgfaaEdRR
import Derived.Test.YthjkdpphbipgfaaEdData
import Derived.Deep.RegionHeld3
import Derived.Deep.DrawnRows
import Derived.Laws.ResultCell
import Derived.Deep.DeepCutAuto
namespace Go.Proofs.Ythjkdpphbipgfaa
open Go.RowKit Go.Shelf Go.Lib

def ttlE (hi ve fl : Int) : Int := hi * 16777216 + ve * 65536 + fl
/-- The records beside, behind Put. -/
def putE (e : List RRec) (th : Bool) (sz hi ve fl : Int) (s : ByteArray) : List RRec := match th with | true => leftsR 41 e ++ [⟨⟨#[0]⟩, 41, sz, ttlE hi ve fl, s⟩] | false => leftsR 41 e
def zeroMsg : Value := .agg #[.int .u16 0, .int .u16 0, .slice none 0 0, .slice none 0 0, .slice none 0 0, .slice none 0 0]
def PutPost (m : MRec) (th : Bool) (sz hi ve fl : Int) (D : ByteArray → Bool → Prop) (w : World) (en : Ending) (w' : World) : Prop :=
  (∃ s, D s false ∧ en = .returned (.tuple #[zeroMsg, .int .i64 2]) ∧ Below w.heap.size w w') ∨
  (∃ (s : ByteArray) (qA : Option Addr) (qc : Nat) (sA : Option Addr) (sc : Nat) (hA : Option Addr) (hc : Nat) (eA : Option Addr) (ec : Nat), D s true ∧ en = .returned (.tuple #[MRec.val ⟨m.id, m.bi, qA, m.q, qc, sA, m.s, sc, hA, m.h, hc, eA, putE m.e th sz hi ve fl s, ec⟩, .int .i64 0]) ∧
    MRec.In ⟨m.id, m.bi, qA, m.q, qc, sA, m.s, sc, hA, m.h, hc, eA, putE m.e th sz hi ve fl s, ec⟩ w' ∧ Below w.heap.size w w' ∧
    Sl w' 5 (.slice eA (putE m.e th sz hi ve fl s).length ec) (putE m.e th sz hi ve fl s).length (flatV RRec.vs (putE m.e th sz hi ve fl s)) ∧ ∀ g, (Value.slice eA (putE m.e th sz hi ve fl s).length ec).ownBlock = some g → w.heap.size ≤ g)
theorem res_cell_tmpE {P : Program} {fn : Func} {p u : Tmp} {ty : TypeId} (h : fn.results = #[.cell p ty, .tmp u]) (tmps : Array Value) (w : World) (g : Nat) (t : TypeId) (cs : Array Value) (d : TypeDesc)
    (hp : tmps.getD p undef = .pointer (some ⟨g, 0, none⟩)) (hg : Blk w g t cs) (hu : P.underlying ty = some d) (hd : (match d with | .struct _ | .array _ _ => true | _ => false) = true) (hi : (P.info? ty).map (·.size) = some cs.size) :
    (results fn tmps).run P w = .ok (.tuple #[.agg cs, tmps.getD u undef]) w := by
  rw [results_cell_tmp h, hp]
  simp [asAddr, Result.andThen, run_loadVar_row w g t ty cs _ d hg hu hd hi]
theorem agg_msg : (Try.prog.info? 26).map (·.size) = some 6 := by kernel_rfl
/-- A message's cells, written over. -/
theorem Blk.msg {w : World} {g : Nat} {u0 u1 u2 u3 u4 u5 : Value} (h : Blk w g 26 #[u0, u1, u2, u3, u4, u5]) (v0 v1 v2 v3 v4 v5 : Value) :
    Blk ((((((w.setCell ⟨g, 0, none⟩ v0).setCell ⟨g, 1, none⟩ v1).setCell ⟨g, 2, none⟩ v2).setCell ⟨g, 3, none⟩ v3).setCell ⟨g, 4, none⟩ v4).setCell ⟨g, 5, none⟩ v5) g 26 #[v0, v1, v2, v3, v4, v5] := by
  have h := (((((h.set_ 0 v0).set_ 1 v1).set_ 2 v2).set_ 3 v3).set_ 4 v4).set_ 5 v5
  simpa using h
theorem keep_msg {K : Nat → Prop} (w : World) {g : Nat} (hg : ∀ i, K i → i ≠ g) (v0 v1 v2 v3 v4 v5 : Value) :
    KeepK K w ((((((w.setCell ⟨g, 0, none⟩ v0).setCell ⟨g, 1, none⟩ v1).setCell ⟨g, 2, none⟩ v2).setCell ⟨g, 3, none⟩ v3).setCell ⟨g, 4, none⟩ v4).setCell ⟨g, 5, none⟩ v5) :=
  ((((((KeepK.refl K w).setCell (p := ⟨g, 0, none⟩) hg _).setCell (p := ⟨g, 1, none⟩) hg _).setCell (p := ⟨g, 2, none⟩) hg _).setCell (p := ⟨g, 3, none⟩) hg _).setCell (p := ⟨g, 4, none⟩) hg _).setCell (p := ⟨g, 5, none⟩) hg _
theorem or_u32 (a b : Nat) (ha : a < 4294967296) (hb : b < 4294967296) : bits .or .u32 (a : Int) (b : Int) = ((a ||| b : Nat) : Int) := by
  have hx : a ||| b < 2 ^ 32 := Nat.or_lt_two_pow (by omega) (by omega)
  have h1 : (BitVec.ofInt 32 (a : Int)).toNat = a := by
    rw [BitVec.ofInt_natCast, BitVec.toNat_ofNat]; exact Nat.mod_eq_of_lt (by omega)
  have h2 : (BitVec.ofInt 32 (b : Int)).toNat = b := by
    rw [BitVec.ofInt_natCast, BitVec.toNat_ofNat]; exact Nat.mod_eq_of_lt (by omega)
  show IntKind.u32.wrap ((BitVec.ofInt 32 (a : Int) ||| BitVec.ofInt 32 (b : Int)).toNat : Int) = _
  rw [BitVec.toNat_or, h1, h2, IntKind.wrap_u32]
  omega
theorem ttl_or {hi ve fl : Int} (h1 : 0 ≤ hi ∧ hi ≤ 255) (h2 : 0 ≤ ve ∧ ve ≤ 255) (h3 : 0 ≤ fl ∧ fl ≤ 65535) :
    bits .or .u32 (bits .or .u32 (hi % 4294967296 * 16777216 % 4294967296) (ve % 4294967296 * 65536 % 4294967296)) (fl % 4294967296) = ttlE hi ve fl := by
  obtain ⟨a, rfl⟩ : ∃ a : Nat, hi = (a : Int) := ⟨hi.toNat, by omega⟩
  obtain ⟨b, rfl⟩ : ∃ a : Nat, ve = (a : Int) := ⟨ve.toNat, by omega⟩
  obtain ⟨c, rfl⟩ : ∃ a : Nat, fl = (a : Int) := ⟨fl.toNat, by omega⟩
  have e1 : (a : Int) % 4294967296 * 16777216 % 4294967296 = ((2 ^ 24 * a : Nat) : Int) := by omega
  have e2 : (b : Int) % 4294967296 * 65536 % 4294967296 = ((b * 65536 : Nat) : Int) := by omega
  have e3 : (c : Int) % 4294967296 = (c : Int) := by omega
  rw [e1, e2, e3, or_u32 _ _ (by omega) (by omega), ← Nat.two_pow_add_eq_or_of_lt (i := 24) (b := b * 65536) (by omega) a, or_u32 _ _ (by omega) (by omega)]
  rw [show 2 ^ 24 * a + b * 65536 = 2 ^ 16 * (a * 256 + b) by omega, ← Nat.two_pow_add_eq_or_of_lt (i := 16) (b := c) (by omega) (a * 256 + b)]
  unfold ttlE
  omega
theorem src_rrE {P : Program} {tx e' : TypeId} (hk : P.underlying tx = some (.slice e')) (w : World) (t : TypeId) (r : RRec) :
    Src P 5 tx (.slice (some ⟨w.heap.size, 0, none⟩) 1 1) 1 (flatV RRec.vs [r]) (w.alloc (.cells #[.string r.n, .int .u16 r.t, .int .u16 r.c, .int .u32 r.l, .string r.d] t)) :=
  Src.ofSlice _ hk ⟨w.heap.size, 0, none⟩ 1 1 _ rfl (fun j x hx => by
    rw [add_lit', Nat.zero_add, World.cell?_alloc_new]
    rw [flatV_one] at hx
    rw [← hx, RRec.vs]
    simp) (rr_oneE _)
theorem kdApp {w w' : World} {row : Option Nat} (h : w.grownBy w' row) : KeepK (fun i => i < w.heap.size ∧ row ≠ some i) w w' := (KeepK.refl _ w).grown h (fun i hi => hi.1) (fun i hi e => hi.2 e.symm)
theorem last7e {a b c d e f g : Prop} (H : a ∧ b ∧ c ∧ d ∧ e ∧ f ∧ g) : g := H.2.2.2.2.2.2
theorem belowT {u a b : World} (h : Below u.heap.size u a) (k : Below a.heap.size a b) : Below u.heap.size u b := h.trans (k.mono h.size)
theorem belowA {u a : World} (h : Below u.heap.size u a) (o : Obj) : Below u.heap.size u (a.alloc o) := h.alloc h.size o
theorem cell_newE (W : World) (v : Value) (t : TypeId) : (W.alloc (.cells #[v] t)).cell? ⟨W.heap.size, 0, none⟩ = some v := by rw [World.cell?_alloc_new]; rfl
theorem delBelow {u a b : World} {v : Value} (h : Below u.heap.size u a) (hv : ∀ g, v.ownBlock = some g → u.heap.size ≤ g) (k : KeepK (fun i => i < a.heap.size ∧ v.ownBlock ≠ some i) a b) : Below u.heap.size u b :=
  ((KeepK.of_below (K := fun i => i < u.heap.size) h fun i hi => hi).trans (k.mono fun i hi => ⟨Nat.lt_of_lt_of_le hi h.size, fun e => by have := hv i e; omega⟩)).below fun i hi => hi
theorem size7 {a b c d e f : Prop} {u W : World} (H : a ∧ b ∧ c ∧ d ∧ e ∧ f ∧ Below u.heap.size u W) : u.heap.size ≤ W.heap.size := H.2.2.2.2.2.2.size
theorem below_allocE (W : World) (o : Obj) : Below W.heap.size W (W.alloc o) := (Below.refl _ _).alloc (Nat.le_refl _) _

theorem up1E {X Y : World} {o : Obj} (h : Below (X.alloc o).heap.size (X.alloc o) Y) : Below X.heap.size X Y := ((Below.refl _ _).alloc (Nat.le_refl _) o).trans (h.mono (by simp))
theorem upD {X Y : World} (h : Below X.drew.heap.size X.drew Y) : Below X.heap.size X Y := ⟨h.os, h.tape, h.output, h.size, h.block⟩
theorem kd1 {a b : World} {o : Obj} {v : Value} (k : KeepK (fun i => i < (a.alloc o).heap.size ∧ v.ownBlock ≠ some i) (a.alloc o) b) : KeepK (fun i => i < a.heap.size ∧ v.ownBlock ≠ some i) a b :=
  ((KeepK.refl _ a).alloc (fun i hi => hi.1) o).trans (k.mono fun i hi => ⟨by simp; omega, hi.2⟩)
theorem Blk.belowS {a b : World} {g : Nat} {t : TypeId} {cs : Array Value} (h : Blk a g t cs) (k : Below a.heap.size a b) : Blk b g t cs := h.below k h.lt
theorem slKeep {x y z u : World} {size n : Nat} {V v : Value} {xs : List Value} (h : Sl x size V n xs) (h1 : Below x.heap.size x y) (h2 : Below y.heap.size y z) (ho : ∀ g, v.ownBlock = some g → y.heap.size ≤ g)
    (k : KeepK (fun i => i < z.heap.size ∧ v.ownBlock ≠ some i) z u) : Sl u size V n xs :=
  ((h.below h1 h.lt).below h2 (h.below h1 h.lt).lt).keepK k fun g hg => by
    have l1 := h.lt g hg
    have z1 := h1.size
    have z2 := h2.size
    exact ⟨by omega, fun e => by have := ho g e; omega⟩
def zMsg : Array Value := #[.int .u16 0, .int .u16 0, .slice none 0 0, .slice none 0 0, .slice none 0 0, .slice none 0 0]
theorem zEarly {x z u : World} {g : Nat} {t : TypeId} {cs : Array Value} {o : Obj} {v : Value} (h : Blk x g t cs) (hb : Below x.heap.size x z) (ho : ∀ q, v.ownBlock = some q → x.heap.size ≤ q)
    (k : KeepK (fun i => i < (z.alloc o).heap.size ∧ v.ownBlock ≠ some i) (z.alloc o) u) : Blk u g t cs := by
  have l := h.lt
  have z1 := hb.size
  exact (h.belowS hb).keepK (kd1 k) ⟨by omega, fun e => by have := ho g e; omega⟩
theorem zMid {z u : World} {o : Obj} {v : Value} (k : KeepK (fun i => i < ((z.alloc (.cells zMsg 26)).alloc o).heap.size ∧ v.ownBlock ≠ some i) ((z.alloc (.cells zMsg 26)).alloc o) u) (hv : ∀ g, v.ownBlock = some g → g < z.heap.size) : Blk u z.heap.size 26 zMsg :=
  (Blk.new z 26 zMsg).keepK (kd1 k) ⟨by simp, fun e => absurd (hv _ e) (Nat.lt_irrefl _)⟩
theorem zLate {z u : World} {o : Obj} {v : Value} (k : KeepK (fun i => i < ((z.alloc o).alloc (.cells zMsg 26)).heap.size ∧ v.ownBlock ≠ some i) ((z.alloc o).alloc (.cells zMsg 26)) u) (hv : ∀ g, v.ownBlock = some g → g < z.heap.size) : Blk u (z.heap.size + 1) 26 zMsg := by
  have h := Blk.new (z.alloc o) 26 zMsg
  rw [World.size_alloc] at h
  exact h.keepK k ⟨by simp, fun e => by have := hv _ e; omega⟩
theorem cell_allocE {W : World} {o : Obj} {b : Nat} {v : Value} (h : W.cell? ⟨b, 0, none⟩ = some v) : (W.alloc o).cell? ⟨b, 0, none⟩ = some v := (((below_allocE W o)).cell (p := ⟨b, 0, none⟩) (cell_lt h)).trans h
theorem cell_newE5 (W : World) (o : Obj) (v : Value) (t : TypeId) : ((W.alloc o).alloc (.cells #[v] t)).cell? ⟨W.heap.size + 1, 0, none⟩ = some v := by
  have := cell_newE (W.alloc o) v t
  rw [World.size_alloc] at this
  exact this
theorem leA {w : World} {o : Obj} {g : Nat} (h : (w.alloc o).heap.size ≤ g) : w.heap.size ≤ g := by rw [World.size_alloc] at h; omega
theorem ltA1 (w : World) (o : Obj) : w.heap.size < (w.alloc o).heap.size := by rw [World.size_alloc]; omega
theorem ltA2 (w : World) (o o' : Obj) : w.heap.size < ((w.alloc o).alloc o').heap.size := by rw [World.size_alloc, World.size_alloc]; omega
theorem ltA2' (w : World) (o o' : Obj) : w.heap.size + 1 < ((w.alloc o).alloc o').heap.size := by rw [World.size_alloc, World.size_alloc]; omega
theorem neA {w : World} {v : Value} (h : ∀ g, v.ownBlock = some g → g < w.heap.size) : v.ownBlock ≠ some w.heap.size := fun e => absurd (h _ e) (Nat.lt_irrefl _)
theorem neB {w : World} {v : Value} (h : ∀ g, v.ownBlock = some g → g < w.heap.size) : v.ownBlock ≠ some (w.heap.size + 1) := fun e => by have := h _ e; omega
structure Put7 (m : MRec) (w1 w7 : World) (A2 : Option Addr) (k2 : Nat) (A3 : Option Addr) (k3 : Nat) (A4 : Option Addr) (k4 : Nat) (A7 : Option Addr) (k7 : Nat) : Prop where
  b : Below w1.heap.size w1 w7
  s2 : Sl w7 3 (.slice A2 m.q.length k2) m.q.length (flatV QRec.vs m.q)
  s3 : Sl w7 5 (.slice A3 m.s.length k3) m.s.length (flatV RRec.vs m.s)
  s4 : Sl w7 5 (.slice A4 m.h.length k4) m.h.length (flatV RRec.vs m.h)
  s7 : Sl w7 5 (.slice A7 (leftsR 41 m.e).length k7) (leftsR 41 m.e).length (flatV RRec.vs (leftsR 41 m.e))
  o2 : ∀ g, (Value.slice A2 m.q.length k2).ownBlock = some g → w1.heap.size ≤ g
  o3 : ∀ g, (Value.slice A3 m.s.length k3).ownBlock = some g → w1.heap.size ≤ g
  o4 : ∀ g, (Value.slice A4 m.h.length k4).ownBlock = some g → w1.heap.size ≤ g
  o7 : ∀ g, (Value.slice A7 (leftsR 41 m.e).length k7).ownBlock = some g → w1.heap.size ≤ g
  d : ∀ g, (Value.slice A7 (leftsR 41 m.e).length k7).ownBlock = some g → (Value.slice A2 m.q.length k2).ownBlock ≠ some g ∧ (Value.slice A3 m.s.length k3).ownBlock ≠ some g ∧ (Value.slice A4 m.h.length k4).ownBlock ≠ some g
theorem put7 {m : MRec} {w1 w2 w3 w4 w5 w7 : World} {A2 A3 A4 A5 A7 : Option Addr} {k2 k3 k4 k5 k7 : Nat} (hb7 : Below w1.heap.size w1 w7)
    (hQ2 : Sl w2 3 (.slice A2 m.q.length k2) m.q.length (flatV QRec.vs m.q)) (hS3 : Sl w3 5 (.slice A3 m.s.length k3) m.s.length (flatV RRec.vs m.s)) (hS4 : Sl w4 5 (.slice A4 m.h.length k4) m.h.length (flatV RRec.vs m.h))
    (hS7 : Sl w7 5 (.slice A7 (leftsR 41 m.e).length k7) (leftsR 41 m.e).length (flatV RRec.vs (leftsR 41 m.e))) (G23 : Below w2.heap.size w2 w3) (G34 : Below w3.heap.size w3 w4) (G45 : Below w4.heap.size w4 w5)
    (o2 : ∀ g, (Value.slice A2 m.q.length k2).ownBlock = some g → w1.heap.size ≤ g) (o3 : ∀ g, (Value.slice A3 m.s.length k3).ownBlock = some g → w1.heap.size ≤ g) (o4 : ∀ g, (Value.slice A4 m.h.length k4).ownBlock = some g → w1.heap.size ≤ g) (h5 : ∀ g, (Value.slice A5 m.e.length k5).ownBlock = some g → w4.heap.size ≤ g) (hq5 : ∀ g, (Value.slice A5 m.e.length k5).ownBlock = some g → w1.heap.size ≤ g)
    (ho7 : ∀ g, (Value.slice A7 (leftsR 41 m.e).length k7).ownBlock = some g → (Value.slice A5 m.e.length k5).ownBlock = some g)
    (K57 : KeepK (fun i => i < w5.heap.size ∧ (Value.slice A5 m.e.length k5).ownBlock ≠ some i) w5 w7) : Put7 m w1 w7 A2 k2 A3 k3 A4 k4 A7 k7 := by
  have z2 := G23.size
  have z3 := G34.size
  refine ⟨hb7, slKeep hQ2 (belowT G23 G34) G45 h5 K57, slKeep hS3 G34 G45 h5 K57, slKeep hS4 (Below.refl _ _) G45 h5 K57, hS7, o2, o3, o4, fun g hg => hq5 g (ho7 g hg), fun g hg => ?_⟩
  have h1 := h5 g (ho7 g hg)
  exact ⟨fun e => by have := hQ2.lt g e; omega, fun e => by have := hS3.lt g e; omega, fun e => by have := hS4.lt g e; omega⟩
def PutCut (m : MRec) (w1 : World) (v8 : Value) (wx : World) : Prop :=
  ∃ g A2 k2 A3 k3 A4 k4 A7 k7, v8 = .pointer (some ⟨g, 0, none⟩) ∧ w1.heap.size ≤ g ∧ Blk wx g 26 #[.int .u16 m.id, .int .u16 m.bi, .slice A2 m.q.length k2, .slice A3 m.s.length k3, .slice A4 m.h.length k4, .slice A7 (leftsR 41 m.e).length k7] ∧ Put7 m w1 wx A2 k2 A3 k3 A4 k4 A7 k7 ∧
    (Value.slice A2 m.q.length k2).ownBlock ≠ some g ∧ (Value.slice A3 m.s.length k3).ownBlock ≠ some g ∧ (Value.slice A4 m.h.length k4).ownBlock ≠ some g ∧ (Value.slice A7 (leftsR 41 m.e).length k7).ownBlock ≠ some g
theorem Put7.fresh {m : MRec} {w1 w7 : World} {A2 : Option Addr} {k2 : Nat} {A3 : Option Addr} {k3 : Nat} {A4 : Option Addr} {k4 : Nat} {A7 : Option Addr} {k7 : Nat} (h : Put7 m w1 w7 A2 k2 A3 k3 A4 k4 A7 k7) :
    PutCut m w1 (.pointer (some ⟨w7.heap.size, 0, none⟩)) (w7.alloc (.cells #[.int .u16 m.id, .int .u16 m.bi, .slice A2 m.q.length k2, .slice A3 m.s.length k3, .slice A4 m.h.length k4, .slice A7 (leftsR 41 m.e).length k7] 26)) :=
  ⟨w7.heap.size, A2, k2, A3, k3, A4, k4, A7, k7, rfl, h.b.size, Blk.new _ _ _, ⟨belowA h.b _, h.s2.alloc _, h.s3.alloc _, h.s4.alloc _, h.s7.alloc _, h.o2, h.o3, h.o4, h.o7, h.d⟩,
    fun e => absurd (h.s2.lt _ e) (Nat.lt_irrefl _), fun e => absurd (h.s3.lt _ e) (Nat.lt_irrefl _), fun e => absurd (h.s4.lt _ e) (Nat.lt_irrefl _), fun e => absurd (h.s7.lt _ e) (Nat.lt_irrefl _)⟩
theorem storeBelow {u a : World} {g : Nat} (h : Below u.heap.size u a) (hg : u.heap.size ≤ g) (v0 v1 v2 v3 v4 v5 : Value) :
    Below u.heap.size u ((((((a.setCell ⟨g, 0, none⟩ v0).setCell ⟨g, 1, none⟩ v1).setCell ⟨g, 2, none⟩ v2).setCell ⟨g, 3, none⟩ v3).setCell ⟨g, 4, none⟩ v4).setCell ⟨g, 5, none⟩ v5) :=
  ((KeepK.of_below (K := fun i => i < u.heap.size) h fun i hi => hi).trans (keep_msg a (fun i hi => by omega) v0 v1 v2 v3 v4 v5)).below fun i hi => hi
/-- The block that was laid early. -/
structure ZB (w1 w7 : World) (v2 v3 v4 v7 : Value) (g : Nat) : Prop where
  lo : w1.heap.size ≤ g
  b : Blk w7 g 26 zMsg
  d2 : v2.ownBlock ≠ some g
  d3 : v3.ownBlock ≠ some g
  d4 : v4.ownBlock ≠ some g
  d7 : v7.ownBlock ≠ some g
theorem ZB.cells {w1 w7 : World} {v2 v3 v4 v7 : Value} {g : Nat} (z : ZB w1 w7 v2 v3 v4 v7 g) : w7.cell? ⟨g, 0, none⟩ = some (.int .u16 0) ∧ w7.cell? ⟨g, 1, none⟩ = some (.int .u16 0) ∧ w7.cell? ⟨g, 2, none⟩ = some (.slice none 0 0) ∧ w7.cell? ⟨g, 3, none⟩ = some (.slice none 0 0) ∧ w7.cell? ⟨g, 4, none⟩ = some (.slice none 0 0) ∧ w7.cell? ⟨g, 5, none⟩ = some (.slice none 0 0) ∧
    w7.frozen? ⟨g, 0, none⟩ = false ∧ w7.frozen? ⟨g, 1, none⟩ = false ∧ w7.frozen? ⟨g, 2, none⟩ = false ∧ w7.frozen? ⟨g, 3, none⟩ = false ∧ w7.frozen? ⟨g, 4, none⟩ = false ∧ w7.frozen? ⟨g, 5, none⟩ = false :=
  ⟨z.b.cell 0, z.b.cell 1, z.b.cell 2, z.b.cell 3, z.b.cell 4, z.b.cell 5, z.b.frozen 0, z.b.frozen 1, z.b.frozen 2, z.b.frozen 3, z.b.frozen 4, z.b.frozen 5⟩
theorem zb1 {w1 X1 w2 w3 w4 w5 w7 : World} {o : Obj} {v2 v3 v4 v5 v7 : Value} (hb2 : Below (X1.alloc (.cells zMsg 26)).heap.size (X1.alloc (.cells zMsg 26)) w2) (hb3 : Below w2.heap.size w2 w3) (hb4 : Below w3.heap.size w3 w4) (hb5 : Below w4.heap.size w4 w5) (hk7 : KeepK (fun i => i < (w5.alloc o).heap.size ∧ v5.ownBlock ≠ some i) (w5.alloc o) w7) (ho2 : ∀ g, v2.ownBlock = some g → (X1.alloc (.cells zMsg 26)).heap.size ≤ g) (l2 : ∀ g, v2.ownBlock = some g → g < w2.heap.size) (ho3 : ∀ g, v3.ownBlock = some g → w2.heap.size ≤ g) (l3 : ∀ g, v3.ownBlock = some g → g < w3.heap.size) (ho4 : ∀ g, v4.ownBlock = some g → w3.heap.size ≤ g) (l4 : ∀ g, v4.ownBlock = some g → g < w4.heap.size) (ho5 : ∀ g, v5.ownBlock = some g → w4.heap.size ≤ g) (l5 : ∀ g, v5.ownBlock = some g → g < w5.heap.size) (ho7 : ∀ g, v7.ownBlock = some g → v5.ownBlock = some g) (h1 : w1.heap.size = X1.heap.size) : ZB w1 w7 v2 v3 v4 v7 X1.heap.size := by
  have hB := zEarly ((((Blk.new X1 26 zMsg).belowS hb2).belowS hb3).belowS hb4) hb5 ho5 hk7
  have z2 := hb2.size
  have z3 := hb3.size
  have z4 := hb4.size
  have z5 := hb5.size
  rw [World.size_alloc] at z2
  exact ⟨by omega, hB, (fun e => by have a := ho2 _ e; have b := l2 _ e; rw [World.size_alloc] at a; omega), (fun e => by have a := ho3 _ e; have b := l3 _ e; omega), (fun e => by have a := ho4 _ e; have b := l4 _ e; omega), (fun e => by have a := ho5 _ (ho7 _ e); have b := l5 _ (ho7 _ e); omega)⟩
theorem zb2 {w1 X1 w2 w3 w4 w5 w7 : World} {o : Obj} {v2 v3 v4 v5 v7 : Value} (hb2 : Below X1.heap.size X1 w2) (hb3 : Below (w2.alloc (.cells zMsg 26)).heap.size (w2.alloc (.cells zMsg 26)) w3) (hb4 : Below w3.heap.size w3 w4) (hb5 : Below w4.heap.size w4 w5) (hk7 : KeepK (fun i => i < (w5.alloc o).heap.size ∧ v5.ownBlock ≠ some i) (w5.alloc o) w7) (ho2 : ∀ g, v2.ownBlock = some g → X1.heap.size ≤ g) (l2 : ∀ g, v2.ownBlock = some g → g < w2.heap.size) (ho3 : ∀ g, v3.ownBlock = some g → (w2.alloc (.cells zMsg 26)).heap.size ≤ g) (l3 : ∀ g, v3.ownBlock = some g → g < w3.heap.size) (ho4 : ∀ g, v4.ownBlock = some g → w3.heap.size ≤ g) (l4 : ∀ g, v4.ownBlock = some g → g < w4.heap.size) (ho5 : ∀ g, v5.ownBlock = some g → w4.heap.size ≤ g) (l5 : ∀ g, v5.ownBlock = some g → g < w5.heap.size) (ho7 : ∀ g, v7.ownBlock = some g → v5.ownBlock = some g) (h1 : w1.heap.size = X1.heap.size) : ZB w1 w7 v2 v3 v4 v7 w2.heap.size := by
  have hB := zEarly (((Blk.new w2 26 zMsg).belowS hb3).belowS hb4) hb5 ho5 hk7
  have z2 := hb2.size
  have z3 := hb3.size
  have z4 := hb4.size
  have z5 := hb5.size
  rw [World.size_alloc] at z3
  exact ⟨by omega, hB, (fun e => by have a := ho2 _ e; have b := l2 _ e; omega), (fun e => by have a := ho3 _ e; have b := l3 _ e; rw [World.size_alloc] at a; omega), (fun e => by have a := ho4 _ e; have b := l4 _ e; omega), (fun e => by have a := ho5 _ (ho7 _ e); have b := l5 _ (ho7 _ e); omega)⟩
theorem zb3 {w1 X1 w2 w3 w4 w5 w7 : World} {o : Obj} {v2 v3 v4 v5 v7 : Value} (hb2 : Below X1.heap.size X1 w2) (hb3 : Below w2.heap.size w2 w3) (hb4 : Below (w3.alloc (.cells zMsg 26)).heap.size (w3.alloc (.cells zMsg 26)) w4) (hb5 : Below w4.heap.size w4 w5) (hk7 : KeepK (fun i => i < (w5.alloc o).heap.size ∧ v5.ownBlock ≠ some i) (w5.alloc o) w7) (ho2 : ∀ g, v2.ownBlock = some g → X1.heap.size ≤ g) (l2 : ∀ g, v2.ownBlock = some g → g < w2.heap.size) (ho3 : ∀ g, v3.ownBlock = some g → w2.heap.size ≤ g) (l3 : ∀ g, v3.ownBlock = some g → g < w3.heap.size) (ho4 : ∀ g, v4.ownBlock = some g → (w3.alloc (.cells zMsg 26)).heap.size ≤ g) (l4 : ∀ g, v4.ownBlock = some g → g < w4.heap.size) (ho5 : ∀ g, v5.ownBlock = some g → w4.heap.size ≤ g) (l5 : ∀ g, v5.ownBlock = some g → g < w5.heap.size) (ho7 : ∀ g, v7.ownBlock = some g → v5.ownBlock = some g) (h1 : w1.heap.size = X1.heap.size) : ZB w1 w7 v2 v3 v4 v7 w3.heap.size := by
  have hB := zEarly ((Blk.new w3 26 zMsg).belowS hb4) hb5 ho5 hk7
  have z2 := hb2.size
  have z3 := hb3.size
  have z4 := hb4.size
  have z5 := hb5.size
  rw [World.size_alloc] at z4
  exact ⟨by omega, hB, (fun e => by have a := ho2 _ e; have b := l2 _ e; omega), (fun e => by have a := ho3 _ e; have b := l3 _ e; omega), (fun e => by have a := ho4 _ e; have b := l4 _ e; rw [World.size_alloc] at a; omega), (fun e => by have a := ho5 _ (ho7 _ e); have b := l5 _ (ho7 _ e); omega)⟩
theorem zb4 {w1 X1 w2 w3 w4 w5 w7 : World} {o : Obj} {v2 v3 v4 v5 v7 : Value} (hb2 : Below X1.heap.size X1 w2) (hb3 : Below w2.heap.size w2 w3) (hb4 : Below w3.heap.size w3 w4) (hb5 : Below (w4.alloc (.cells zMsg 26)).heap.size (w4.alloc (.cells zMsg 26)) w5) (hk7 : KeepK (fun i => i < (w5.alloc o).heap.size ∧ v5.ownBlock ≠ some i) (w5.alloc o) w7) (ho2 : ∀ g, v2.ownBlock = some g → X1.heap.size ≤ g) (l2 : ∀ g, v2.ownBlock = some g → g < w2.heap.size) (ho3 : ∀ g, v3.ownBlock = some g → w2.heap.size ≤ g) (l3 : ∀ g, v3.ownBlock = some g → g < w3.heap.size) (ho4 : ∀ g, v4.ownBlock = some g → w3.heap.size ≤ g) (l4 : ∀ g, v4.ownBlock = some g → g < w4.heap.size) (ho5 : ∀ g, v5.ownBlock = some g → (w4.alloc (.cells zMsg 26)).heap.size ≤ g) (l5 : ∀ g, v5.ownBlock = some g → g < w5.heap.size) (ho7 : ∀ g, v7.ownBlock = some g → v5.ownBlock = some g) (h1 : w1.heap.size = X1.heap.size) : ZB w1 w7 v2 v3 v4 v7 w4.heap.size := by
  have hB := zEarly (Blk.new w4 26 zMsg) hb5 ho5 hk7
  have z2 := hb2.size
  have z3 := hb3.size
  have z4 := hb4.size
  have z5 := hb5.size
  rw [World.size_alloc] at z5
  exact ⟨by omega, hB, (fun e => by have a := ho2 _ e; have b := l2 _ e; omega), (fun e => by have a := ho3 _ e; have b := l3 _ e; omega), (fun e => by have a := ho4 _ e; have b := l4 _ e; omega), (fun e => by have a := ho5 _ (ho7 _ e); have b := l5 _ (ho7 _ e); rw [World.size_alloc] at a; omega)⟩
theorem zb5 {w1 X1 w2 w3 w4 w5 w7 : World} {o : Obj} {v2 v3 v4 v5 v7 : Value} (hb2 : Below X1.heap.size X1 w2) (hb3 : Below w2.heap.size w2 w3) (hb4 : Below w3.heap.size w3 w4) (hb5 : Below w4.heap.size w4 w5) (hk7 : KeepK (fun i => i < ((w5.alloc (.cells zMsg 26)).alloc o).heap.size ∧ v5.ownBlock ≠ some i) ((w5.alloc (.cells zMsg 26)).alloc o) w7) (ho2 : ∀ g, v2.ownBlock = some g → X1.heap.size ≤ g) (l2 : ∀ g, v2.ownBlock = some g → g < w2.heap.size) (ho3 : ∀ g, v3.ownBlock = some g → w2.heap.size ≤ g) (l3 : ∀ g, v3.ownBlock = some g → g < w3.heap.size) (ho4 : ∀ g, v4.ownBlock = some g → w3.heap.size ≤ g) (l4 : ∀ g, v4.ownBlock = some g → g < w4.heap.size) (ho5 : ∀ g, v5.ownBlock = some g → w4.heap.size ≤ g) (l5 : ∀ g, v5.ownBlock = some g → g < w5.heap.size) (ho7 : ∀ g, v7.ownBlock = some g → v5.ownBlock = some g) (h1 : w1.heap.size = X1.heap.size) : ZB w1 w7 v2 v3 v4 v7 w5.heap.size := by
  have hB := zMid hk7 l5
  have z2 := hb2.size
  have z3 := hb3.size
  have z4 := hb4.size
  have z5 := hb5.size
  exact ⟨by omega, hB, (fun e => by have a := ho2 _ e; have b := l2 _ e; omega), (fun e => by have a := ho3 _ e; have b := l3 _ e; omega), (fun e => by have a := ho4 _ e; have b := l4 _ e; omega), (fun e => by have a := ho5 _ (ho7 _ e); have b := l5 _ (ho7 _ e); omega)⟩
theorem zb6 {w1 X1 w2 w3 w4 w5 w7 : World} {o : Obj} {v2 v3 v4 v5 v7 : Value} (hb2 : Below X1.heap.size X1 w2) (hb3 : Below w2.heap.size w2 w3) (hb4 : Below w3.heap.size w3 w4) (hb5 : Below w4.heap.size w4 w5) (hk7 : KeepK (fun i => i < ((w5.alloc o).alloc (.cells zMsg 26)).heap.size ∧ v5.ownBlock ≠ some i) ((w5.alloc o).alloc (.cells zMsg 26)) w7) (ho2 : ∀ g, v2.ownBlock = some g → X1.heap.size ≤ g) (l2 : ∀ g, v2.ownBlock = some g → g < w2.heap.size) (ho3 : ∀ g, v3.ownBlock = some g → w2.heap.size ≤ g) (l3 : ∀ g, v3.ownBlock = some g → g < w3.heap.size) (ho4 : ∀ g, v4.ownBlock = some g → w3.heap.size ≤ g) (l4 : ∀ g, v4.ownBlock = some g → g < w4.heap.size) (ho5 : ∀ g, v5.ownBlock = some g → w4.heap.size ≤ g) (l5 : ∀ g, v5.ownBlock = some g → g < w5.heap.size) (ho7 : ∀ g, v7.ownBlock = some g → v5.ownBlock = some g) (h1 : w1.heap.size = X1.heap.size) : ZB w1 w7 v2 v3 v4 v7 (w5.heap.size + 1) := by
  have hB := zLate hk7 l5
  have z2 := hb2.size
  have z3 := hb3.size
  have z4 := hb4.size
  have z5 := hb5.size
  exact ⟨by omega, hB, (fun e => by have a := ho2 _ e; have b := l2 _ e; omega), (fun e => by have a := ho3 _ e; have b := l3 _ e; omega), (fun e => by have a := ho4 _ e; have b := l4 _ e; omega), (fun e => by have a := ho5 _ (ho7 _ e); have b := l5 _ (ho7 _ e); omega)⟩
theorem Put7.old {m : MRec} {w1 w7 : World} {A2 : Option Addr} {k2 : Nat} {A3 : Option Addr} {k3 : Nat} {A4 : Option Addr} {k4 : Nat} {A7 : Option Addr} {k7 : Nat} (h : Put7 m w1 w7 A2 k2 A3 k3 A4 k4 A7 k7) {g : Nat}
    (z : ZB w1 w7 (.slice A2 m.q.length k2) (.slice A3 m.s.length k3) (.slice A4 m.h.length k4) (.slice A7 (leftsR 41 m.e).length k7) g) :
    PutCut m w1 (.pointer (some ⟨g, 0, none⟩)) ((((((w7.setCell ⟨g, 0, none⟩ (.int .u16 m.id)).setCell ⟨g, 1, none⟩ (.int .u16 m.bi)).setCell ⟨g, 2, none⟩ (.slice A2 m.q.length k2)).setCell ⟨g, 3, none⟩ (.slice A3 m.s.length k3)).setCell ⟨g, 4, none⟩ (.slice A4 m.h.length k4)).setCell ⟨g, 5, none⟩ (.slice A7 (leftsR 41 m.e).length k7)) := by
  have k : KeepK (fun i => i ≠ g) w7 _ := keep_msg w7 (fun i hi => hi) (.int .u16 m.id) (.int .u16 m.bi) (.slice A2 m.q.length k2) (.slice A3 m.s.length k3) (.slice A4 m.h.length k4) (.slice A7 (leftsR 41 m.e).length k7)
  refine ⟨g, A2, k2, A3, k3, A4, k4, A7, k7, rfl, z.lo, Blk.msg z.b _ _ _ _ _ _, ⟨storeBelow h.b z.lo _ _ _ _ _ _, h.s2.keepK k fun q hq e => z.d2 (e ▸ hq), h.s3.keepK k fun q hq e => z.d3 (e ▸ hq), h.s4.keepK k fun q hq e => z.d4 (e ▸ hq), h.s7.keepK k fun q hq e => z.d7 (e ▸ hq), h.o2, h.o3, h.o4, h.o7, h.d⟩, z.d2, z.d3, z.d4, z.d7⟩

set_option maxRecDepth 100000 in
set_option maxHeartbeats 16000000 in
theorem put_any (m : MRec) (th : Bool) (sz hi ve fl : Int) (A : Option Addr) (n c : Nat) (D : ByteArray → Bool → Prop) (w : World) (hm : m.In w) (hl : m.q.length ≤ 4000 ∧ m.s.length ≤ 4000 ∧ m.h.length ≤ 4000 ∧ m.e.length ≤ 4000)
    (hb : (0 ≤ hi ∧ hi ≤ 255) ∧ (0 ≤ ve ∧ ve ≤ 255) ∧ 0 ≤ fl ∧ fl ≤ 65535)
    (HD : ∀ W, Below w.heap.size w W → Calls Try.prog 57 #[ednsV th sz hi ve fl A n c] W fun e w' => ∃ s ok, e = .returned (.tuple #[.string s, .bool ok]) ∧ D s ok ∧ Below W.heap.size W w') :
    Calls Try.prog 26 #[m.val, ednsV th sz hi ve fl A n c] w (PutPost m th sz hi ve fl D w) := by
  have HM := Lib.hid (And.intro hm (And.intro hl hb))
  clear hm hl hb
  have HD0 := Lib.hid HD
  clear HD
  unfold ednsV at HD0 ⊢
  dsimp only [MRec.val]
  go_enter Try.func26, Try.ntmps26
  obtain ⟨V, hV⟩ : ∃ V, ((w.alloc (.cells #[.int .u16 m.id, .int .u16 m.bi, .slice m.qA m.q.length m.qc, .slice m.sA m.s.length m.sc, .slice m.hA m.h.length m.hc, .slice m.eA m.e.length m.ec] 26)).alloc (.cells #[.bool th, .int .u16 sz, .int .u8 hi, .int .u8 ve, .int .u16 fl, .slice A n c] 45)).alloc (.cells #[.int .u16 0, .int .u16 0, .slice none 0 0, .slice none 0 0, .slice none 0 0, .slice none 0 0] 26) = V := ⟨_, rfl⟩
  have HV := Lib.hid (show Below w.heap.size w V ∧ Blk V w.heap.size 26 #[.int .u16 m.id, .int .u16 m.bi, .slice m.qA m.q.length m.qc, .slice m.sA m.s.length m.sc, .slice m.hA m.h.length m.hc, .slice m.eA m.e.length m.ec] ∧ Blk V (w.heap.size + 1) 45 #[.bool th, .int .u16 sz, .int .u8 hi, .int .u8 ve, .int .u16 fl, .slice A n c] ∧ Blk V (w.heap.size + 2) 26 #[.int .u16 0, .int .u16 0, .slice none 0 0, .slice none 0 0, .slice none 0 0, .slice none 0 0] ∧ V.heap.size = w.heap.size + 3 from by
    rw [← hV]
    refine ⟨(((Below.refl _ _).alloc (Nat.le_refl _) _).alloc (by simp) _).alloc (by simp; omega) _, ((Blk.new _ _ _).alloc _).alloc _, ?_, ?_, by simp⟩
    · have h1 := (Blk.new (w.alloc (.cells #[.int .u16 m.id, .int .u16 m.bi, .slice m.qA m.q.length m.qc, .slice m.sA m.s.length m.sc, .slice m.hA m.h.length m.hc, .slice m.eA m.e.length m.ec] 26)) 45 #[.bool th, .int .u16 sz, .int .u8 hi, .int .u8 ve, .int .u16 fl, .slice A n c]).alloc (.cells #[.int .u16 0, .int .u16 0, .slice none 0 0, .slice none 0 0, .slice none 0 0, .slice none 0 0] 26)
      rw [World.size_alloc] at h1
      exact h1
    · have h1 := Blk.new ((w.alloc (.cells #[.int .u16 m.id, .int .u16 m.bi, .slice m.qA m.q.length m.qc, .slice m.sA m.s.length m.sc, .slice m.hA m.h.length m.hc, .slice m.eA m.e.length m.ec] 26)).alloc (.cells #[.bool th, .int .u16 sz, .int .u8 hi, .int .u8 ve, .int .u16 fl, .slice A n c] 45)) 26 #[.int .u16 0, .int .u16 0, .slice none 0 0, .slice none 0 0, .slice none 0 0, .slice none 0 0]
      rw [World.size_alloc, World.size_alloc] at h1
      exact h1)
  have HC := Lib.hid (HD0.out V HV.out.1)
  have e0 := HV.out.2.2.1.cell 0
  have e1 := HV.out.2.2.1.cell 1
  have e2 := HV.out.2.2.1.cell 2
  have e3 := HV.out.2.2.1.cell 3
  have e4 := HV.out.2.2.1.cell 4
  have e5 := HV.out.2.2.1.cell 5
  go_wp2_with (fail)
  with_reducible refine HC.out.mono ?_
  rintro e w1 ⟨s, ok, rfl, hD, hb1⟩
  have hs1 := hb1.size
  have hs0 := HV.out.2.2.2.2
  have hR := HV.out.2.2.2.1.below hb1 (by omega)
  have HR := Lib.hid (And.intro hD (And.intro hb1 hR))
  cases ok with
  | false =>
    have r0 := hR.cell 0
    have r1 := hR.cell 1
    have r2 := hR.cell 2
    have r3 := hR.cell 3
    have r4 := hR.cell 4
    have r5 := hR.cell 5
    have g0 := hR.frozen 0
    have g1 := hR.frozen 1
    have g2 := hR.frozen 2
    have g3 := hR.frozen 3
    have g4 := hR.frozen 4
    have g5 := hR.frozen 5
    clear hR hD hb1 hV
    go_wp2_with (fail)
    have hR := HR.out.2.2
    rw [show w.heap.size + 2 = w.heap.size + 1 + 1 from rfl] at hR
    refine bodyPost_ret (res_cell_tmpE rfl _ _ (w.heap.size + 1 + 1) 26 _ _ rfl (hR.msg _ _ _ _ _ _) Try.underlying26 rfl agg_msg) rfl ?_
    refine .inl ⟨s, HR.out.1, rfl, ?_⟩
    exact ((KeepK.of_below (K := fun i => i < w.heap.size) (HV.out.1.trans (HR.out.2.1.mono HV.out.1.size)) fun i hi => hi).trans (keep_msg _ (fun i hi => by omega) _ _ _ _ _ _)).below fun i hi => hi
  | true =>
    have hbw : Below w.heap.size w w1 := HV.out.1.trans (hb1.mono HV.out.1.size)
    have HIn := Lib.hid (fun W (hW : Below w1.heap.size w1 W) => show m.In W from HM.out.1.below (hbw.trans (hW.mono hbw.size)))
    have HCq := Lib.hid (fun W (hW : Below w1.heap.size w1 W) => cloneQ_any m.q m.qA m.qc W (HIn.out W hW).tq (by have := HM.out.2.1.1; omega))
    have HCs := Lib.hid (fun W (hW : Below w1.heap.size w1 W) => cloneR_any m.s m.sA m.sc W (HIn.out W hW).ts (by have := HM.out.2.1.2.1; omega))
    have HCh := Lib.hid (fun W (hW : Below w1.heap.size w1 W) => cloneR_any m.h m.hA m.hc W (HIn.out W hW).th (by have := HM.out.2.1.2.2.1; omega))
    have HCe := Lib.hid (fun W (hW : Below w1.heap.size w1 W) => cloneR_any m.e m.eA m.ec W (HIn.out W hW).te (by have := HM.out.2.1.2.2.2; omega))
    have hM1 := HV.out.2.1.below hb1 (by omega)
    have HKA : RowKit.Hid (∀ w', Below w1.heap.size w1 w' → w'.cell? ⟨w.heap.size, 0, none⟩ = some (.int .u16 m.id) ∧ w'.cell? ⟨w.heap.size, 1, none⟩ = some (.int .u16 m.bi) ∧ w'.cell? ⟨w.heap.size, 2, none⟩ = some (.slice m.qA m.q.length m.qc) ∧ w'.cell? ⟨w.heap.size, 3, none⟩ = some (.slice m.sA m.s.length m.sc) ∧ w'.cell? ⟨w.heap.size, 4, none⟩ = some (.slice m.hA m.h.length m.hc) ∧ w'.cell? ⟨w.heap.size, 5, none⟩ = some (.slice m.eA m.e.length m.ec) ∧ Below w1.heap.size w1 w') := Lib.hid (fun w' hb => by
      have c0 := hM1.below hb (by omega)
      exact ⟨c0.cell 0, c0.cell 1, c0.cell 2, c0.cell 3, c0.cell 4, c0.cell 5, hb⟩)
    have R0 : Below w1.heap.size w1 w1 := Below.refl _ _
    have HL4 := Lib.hid (show m.e.length ≤ 4096 by have := HM.out.2.1.2.2.2; omega)
    have HE1 := Lib.hid (HV.out.2.2.1.below hb1 (by omega))
    clear hR hD hb1 hV hbw hM1 e0 e1 e2 e3 e4 e5
    go_upto_region 4 with (fail)
    go_cut [8] (fun v8 wx => PutCut m w1 v8 wx)
    case first =>
      go_region_held3 (fun w' => w'.cell? ⟨w.heap.size, 0, none⟩ = some (.int .u16 m.id) ∧ w'.cell? ⟨w.heap.size, 1, none⟩ = some (.int .u16 m.bi) ∧ w'.cell? ⟨w.heap.size, 2, none⟩ = some (.slice m.qA m.q.length m.qc) ∧ w'.cell? ⟨w.heap.size, 3, none⟩ = some (.slice m.sA m.s.length m.sc) ∧ w'.cell? ⟨w.heap.size, 4, none⟩ = some (.slice m.hA m.h.length m.hc) ∧ w'.cell? ⟨w.heap.size, 5, none⟩ = some (.slice m.eA m.e.length m.ec) ∧ Below w1.heap.size w1 w')
        (first | with_reducible assumption | with_reducible exact HKA.out _ R0 | with_reducible exact HKA.out _ R0.drew | with_reducible exact HF.out _ _ _ _ _ _ | with_reducible exact HKA.out _ hb7 | with_reducible exact HKA.out _ (belowA hb7 _) | with_reducible exact HKA.out _ (belowT (last7e (by assumption)) hb2) | with_reducible exact HKA.out _ (belowT (last7e (by assumption)) hb3) | with_reducible exact HKA.out _ (belowT (last7e (by assumption)) hb4) | with_reducible exact HKA.out _ (belowT (last7e (by assumption)) hb5) | with_reducible exact HKA.out _ (belowA (last7e (by assumption)) _))
        (first
          | (go_at_call 37; (with_reducible refine (HCq.out _ (last7e (by assumption))).mono ?_); rintro e w2 ⟨A2, k2, rfl, hQ2, ho2, hb2⟩; have hq2 : ∀ g, (Value.slice A2 m.q.length k2).ownBlock = some g → w1.heap.size ≤ g := fun g hg => Nat.le_trans (size7 (by assumption)) (ho2 g hg))
          | (go_at_call 58; (with_reducible refine (HCs.out _ (last7e (by assumption))).mono ?_); rintro e w3 ⟨A3, k3, rfl, hS3, ho3, hb3⟩; have hq3 : ∀ g, (Value.slice A3 m.s.length k3).ownBlock = some g → w1.heap.size ≤ g := fun g hg => Nat.le_trans (size7 (by assumption)) (ho3 g hg))
          | (go_at_call 58; (with_reducible refine (HCh.out _ (last7e (by assumption))).mono ?_); rintro e w4 ⟨A4, k4, rfl, hS4, ho4, hb4⟩; have hq4 : ∀ g, (Value.slice A4 m.h.length k4).ownBlock = some g → w1.heap.size ≤ g := fun g hg => Nat.le_trans (size7 (by assumption)) (ho4 g hg))
          | (go_at_call 58; (with_reducible refine (HCe.out _ (last7e (by assumption))).mono ?_); rintro e w5 ⟨A5, k5, rfl, hS5, ho5, hb5⟩; have hq5 : ∀ g, (Value.slice A5 m.e.length k5).ownBlock = some g → w1.heap.size ≤ g := fun g hg => Nat.le_trans (size7 (by assumption)) (ho5 g hg))
          | (go_at_call 60; (with_reducible refine (typed_any 41 _).mono ?_); rintro e w6 ⟨rfl, rfl⟩)
          | (go_at_call 59; (with_reducible refine (deleteR_any m.e A5 k5 41 w5.heap.size _ (hS5.alloc _) (ltA1 _ _) (neA hS5.lt) (cell_newE _ _ _) HL4.out).mono ?_); rintro e w7 ⟨A7, k7, rfl, hS7, ho7, hk7⟩; have hb7 := delBelow (last7e (by assumption)) hq5 hk7; have G23 : Below w2.heap.size w2 w3 := (by first | exact hb3 | exact up1E hb3); have G34 : Below w3.heap.size w3 w4 := (by first | exact hb4 | exact up1E hb4); have G45 : Below w4.heap.size w4 w5 := (by first | exact hb5 | exact up1E hb5); have h5' : ∀ g, (Value.slice A5 m.e.length k5).ownBlock = some g → w4.heap.size ≤ g := (by first | exact ho5 | exact fun g hg => leA (ho5 g hg)); have K57 : KeepK (fun i => i < w5.heap.size ∧ (Value.slice A5 m.e.length k5).ownBlock ≠ some i) w5 w7 := (by first | exact kd1 hk7 | exact kd1 (kd1 hk7)); have H7 := Lib.hid (put7 hb7 hQ2 hS3 hS4 hS7 G23 G34 G45 hq2 hq3 hq4 h5' hq5 ho7 K57); clear G23 G34 G45 h5' K57; (first | (have Z1 := zb1 (w1 := w1) (v2 := .slice A2 m.q.length k2) (v3 := .slice A3 m.s.length k3) (v4 := .slice A4 m.h.length k4) (v5 := .slice A5 m.e.length k5) (v7 := .slice A7 (leftsR 41 m.e).length k7) (upD hb2) hb3 hb4 hb5 hk7 ho2 hQ2.lt ho3 hS3.lt ho4 hS4.lt ho5 hS5.lt ho7 rfl; have Z : ZB w1 w7 (.slice A2 m.q.length k2) (.slice A3 m.s.length k3) (.slice A4 m.h.length k4) (.slice A7 (leftsR 41 m.e).length k7) w1.heap.size := Z1; clear Z1; obtain ⟨r0, r1, r2, r3, r4, r5, g0, g1, g2, g3, g4, g5⟩ := Z.cells; have HF := Lib.hid (fun v0 v1 v2 v3 v4 v5 : Value => HKA.out _ (storeBelow hb7 Z.lo v0 v1 v2 v3 v4 v5)); have HZ := Lib.hid Z; clear Z) | (have Z : ZB w1 w7 (.slice A2 m.q.length k2) (.slice A3 m.s.length k3) (.slice A4 m.h.length k4) (.slice A7 (leftsR 41 m.e).length k7) w2.heap.size := zb2 hb2 hb3 hb4 hb5 hk7 ho2 hQ2.lt ho3 hS3.lt ho4 hS4.lt ho5 hS5.lt ho7 rfl; obtain ⟨r0, r1, r2, r3, r4, r5, g0, g1, g2, g3, g4, g5⟩ := Z.cells; have HF := Lib.hid (fun v0 v1 v2 v3 v4 v5 : Value => HKA.out _ (storeBelow hb7 Z.lo v0 v1 v2 v3 v4 v5)); have HZ := Lib.hid Z; clear Z) | (have Z : ZB w1 w7 (.slice A2 m.q.length k2) (.slice A3 m.s.length k3) (.slice A4 m.h.length k4) (.slice A7 (leftsR 41 m.e).length k7) w3.heap.size := zb3 hb2 hb3 hb4 hb5 hk7 ho2 hQ2.lt ho3 hS3.lt ho4 hS4.lt ho5 hS5.lt ho7 rfl; obtain ⟨r0, r1, r2, r3, r4, r5, g0, g1, g2, g3, g4, g5⟩ := Z.cells; have HF := Lib.hid (fun v0 v1 v2 v3 v4 v5 : Value => HKA.out _ (storeBelow hb7 Z.lo v0 v1 v2 v3 v4 v5)); have HZ := Lib.hid Z; clear Z) | (have Z : ZB w1 w7 (.slice A2 m.q.length k2) (.slice A3 m.s.length k3) (.slice A4 m.h.length k4) (.slice A7 (leftsR 41 m.e).length k7) w4.heap.size := zb4 hb2 hb3 hb4 hb5 hk7 ho2 hQ2.lt ho3 hS3.lt ho4 hS4.lt ho5 hS5.lt ho7 rfl; obtain ⟨r0, r1, r2, r3, r4, r5, g0, g1, g2, g3, g4, g5⟩ := Z.cells; have HF := Lib.hid (fun v0 v1 v2 v3 v4 v5 : Value => HKA.out _ (storeBelow hb7 Z.lo v0 v1 v2 v3 v4 v5)); have HZ := Lib.hid Z; clear Z) | skip); clear hk7)
          | (go_at_call 59; (with_reducible refine (deleteR_any m.e A5 k5 41 w5.heap.size _ ((hS5.alloc _).alloc _) (ltA2 _ _ _) (neA hS5.lt) (cell_allocE (cell_newE _ _ _)) HL4.out).mono ?_); rintro e w7 ⟨A7, k7, rfl, hS7, ho7, hk7⟩; have hb7 := delBelow (last7e (by assumption)) hq5 hk7; have G23 : Below w2.heap.size w2 w3 := (by first | exact hb3 | exact up1E hb3); have G34 : Below w3.heap.size w3 w4 := (by first | exact hb4 | exact up1E hb4); have G45 : Below w4.heap.size w4 w5 := (by first | exact hb5 | exact up1E hb5); have h5' : ∀ g, (Value.slice A5 m.e.length k5).ownBlock = some g → w4.heap.size ≤ g := (by first | exact ho5 | exact fun g hg => leA (ho5 g hg)); have K57 : KeepK (fun i => i < w5.heap.size ∧ (Value.slice A5 m.e.length k5).ownBlock ≠ some i) w5 w7 := (by first | exact kd1 hk7 | exact kd1 (kd1 hk7)); have H7 := Lib.hid (put7 hb7 hQ2 hS3 hS4 hS7 G23 G34 G45 hq2 hq3 hq4 h5' hq5 ho7 K57); clear G23 G34 G45 h5' K57; have Z : ZB w1 w7 (.slice A2 m.q.length k2) (.slice A3 m.s.length k3) (.slice A4 m.h.length k4) (.slice A7 (leftsR 41 m.e).length k7) (w5.heap.size + 1) := zb6 hb2 hb3 hb4 hb5 hk7 ho2 hQ2.lt ho3 hS3.lt ho4 hS4.lt ho5 hS5.lt ho7 rfl; obtain ⟨r0, r1, r2, r3, r4, r5, g0, g1, g2, g3, g4, g5⟩ := Z.cells; have HF := Lib.hid (fun v0 v1 v2 v3 v4 v5 : Value => HKA.out _ (storeBelow hb7 Z.lo v0 v1 v2 v3 v4 v5)); have HZ := Lib.hid Z; clear Z; clear hk7)
          | (go_at_call 59; (with_reducible refine (deleteR_any m.e A5 k5 41 (w5.heap.size + 1) _ ((hS5.alloc _).alloc _) (ltA2' _ _ _) (neB hS5.lt) (cell_newE5 _ _ _ _) HL4.out).mono ?_); rintro e w7 ⟨A7, k7, rfl, hS7, ho7, hk7⟩; have hb7 := delBelow (last7e (by assumption)) hq5 hk7; have G23 : Below w2.heap.size w2 w3 := (by first | exact hb3 | exact up1E hb3); have G34 : Below w3.heap.size w3 w4 := (by first | exact hb4 | exact up1E hb4); have G45 : Below w4.heap.size w4 w5 := (by first | exact hb5 | exact up1E hb5); have h5' : ∀ g, (Value.slice A5 m.e.length k5).ownBlock = some g → w4.heap.size ≤ g := (by first | exact ho5 | exact fun g hg => leA (ho5 g hg)); have K57 : KeepK (fun i => i < w5.heap.size ∧ (Value.slice A5 m.e.length k5).ownBlock ≠ some i) w5 w7 := (by first | exact kd1 hk7 | exact kd1 (kd1 hk7)); have H7 := Lib.hid (put7 hb7 hQ2 hS3 hS4 hS7 G23 G34 G45 hq2 hq3 hq4 h5' hq5 ho7 K57); clear G23 G34 G45 h5' K57; have Z : ZB w1 w7 (.slice A2 m.q.length k2) (.slice A3 m.s.length k3) (.slice A4 m.h.length k4) (.slice A7 (leftsR 41 m.e).length k7) w5.heap.size := zb5 hb2 hb3 hb4 hb5 hk7 ho2 hQ2.lt ho3 hS3.lt ho4 hS4.lt ho5 hS5.lt ho7 rfl; obtain ⟨r0, r1, r2, r3, r4, r5, g0, g1, g2, g3, g4, g5⟩ := Z.cells; have HF := Lib.hid (fun v0 v1 v2 v3 v4 v5 : Value => HKA.out _ (storeBelow hb7 Z.lo v0 v1 v2 v3 v4 v5)); have HZ := Lib.hid Z; clear Z; clear hk7))
      all_goals
        go_wp2_with (fail)
        go_meet
        first | exact H7.out.fresh | exact H7.out.old HZ.out
    case rest =>
      obtain ⟨g, A2, k2, A3, k3, A4, k4, A7, k7, rfl, hg, hB, h7, n2, n3, n4, n7⟩ := hcut
      have hE9 := HE1.out.belowS h7.b
      have hR9 := HR.out.2.2.belowS h7.b
      rw [show w.heap.size + 2 = w.heap.size + 1 + 1 from rfl] at hR9
      have e0 := hE9.cell 0
      have e1 := hE9.cell 1
      have e2 := hE9.cell 2
      have e3 := hE9.cell 3
      have e4 := hE9.cell 4
      have r0 := hR9.cell 0
      have r1 := hR9.cell 1
      have r2 := hR9.cell 2
      have r3 := hR9.cell 3
      have r4 := hR9.cell 4
      have r5 := hR9.cell 5
      have g0 := hR9.frozen 0
      have g1 := hR9.frozen 1
      have g2 := hR9.frozen 2
      have g3 := hR9.frozen 3
      have g4 := hR9.frozen 4
      have g5 := hR9.frozen 5
      have b0 := hB.cell 0
      have b1 := hB.cell 1
      have b2 := hB.cell 2
      have b3 := hB.cell 3
      have b4 := hB.cell 4
      have b5 := hB.cell 5
      have q5 := hB.frozen 5
      have hgl := hB.lt
      have HX := Lib.hid (And.intro hg (And.intro hB (And.intro h7 (And.intro hR9 (And.intro n2 (And.intro n3 (And.intro n4 n7)))))))
      have hbw : Below w.heap.size w wc := HV.out.1.trans ((HR.out.2.1.trans (h7.b.mono hs1)).mono HV.out.1.size)
      have HBW := Lib.hid hbw
      have hwx : w.heap.size + 2 < w1.heap.size := by omega
      have hng : w.heap.size + 2 < g := by omega
      clear hB h7 hE9 hR9 hg n2 n3 n4 n7 hbw
      cases th with
      | false =>
        go_wp2_with (fail)
        have hx := HX.out
        have k : KeepK (fun i => i ≠ w.heap.size + 1 + 1) wc _ := keep_msg wc (fun i hi => hi) (.int .u16 m.id) (.int .u16 m.bi) (.slice A2 m.q.length k2) (.slice A3 m.s.length k3) (.slice A4 m.h.length k4) (.slice A7 (leftsR 41 m.e).length k7)
        refine bodyPost_ret (res_cell_tmpE rfl _ _ (w.heap.size + 1 + 1) 26 _ _ rfl (hx.2.2.2.1.msg _ _ _ _ _ _) Try.underlying26 rfl agg_msg) rfl ?_
        refine .inr ⟨s, A2, k2, A3, k3, A4, k4, A7, k7, HR.out.1, rfl, ⟨GTab.of_sl QRec.three (hx.2.2.1.s2.keepK k fun q hq e => ?_), rtab_of_sl (hx.2.2.1.s3.keepK k fun q hq e => ?_), rtab_of_sl (hx.2.2.1.s4.keepK k fun q hq e => ?_), rtab_of_sl (hx.2.2.1.s7.keepK k fun q hq e => ?_)⟩, ?_⟩
        · have := hx.2.2.1.o2 q hq; omega
        · have := hx.2.2.1.o3 q hq; omega
        · have := hx.2.2.1.o4 q hq; omega
        · have := hx.2.2.1.o7 q hq; omega
        · refine ⟨((KeepK.of_below (K := fun i => i < w.heap.size) HBW.out fun i hi => hi).trans (keep_msg _ (fun i hi => by omega) _ _ _ _ _ _)).below fun i hi => hi, hx.2.2.1.s7.keepK k fun q hq e => ?_, fun q hq => ?_⟩
          · have := hx.2.2.1.o7 q hq; omega
          · have := hx.2.2.1.o7 q hq; omega
      | true =>
        obtain ⟨T, hT⟩ : ∃ T, ttlE hi ve fl = T := ⟨_, rfl⟩
        have ht := ttl_or HM.out.2.2.1 HM.out.2.2.2.1 HM.out.2.2.2.2
        rw [hT] at ht
        have HT := Lib.hid hT
        obtain ⟨i0, hi0, hz0, hz1, hz2⟩ := info_parts info_rrE
        obtain ⟨L, hL⟩ : ∃ L, leftsR 41 m.e = L := ⟨_, rfl⟩
        rw [hL] at b5 HX
        have hLl : L.length ≤ 4000 := by
          rw [← hL]
          have := HM.out.2.1.2.2.2
          have h2 : (leftsR 41 m.e).length ≤ m.e.length := List.length_filter_le _ _
          omega
        have HSL := Lib.hid ((HX.out.2.2.1.s7.alloc (.cells #[.string ⟨#[0]⟩, .int .u16 41, .int .u16 sz, .int .u32 T, .string s] 30)).alloc (.cells #[.string ⟨#[0]⟩, .int .u16 41, .int .u16 sz, .int .u32 T, .string s] 30))
        have hSR := src_rrE (P := Try.prog) Try.underlying24 (wc.alloc (.cells #[.string ⟨#[0]⟩, .int .u16 41, .int .u16 sz, .int .u32 T, .string s] 30)) 30 ⟨⟨#[0]⟩, 41, sz, T, s⟩
        rw [World.size_alloc] at hSR
        have HSR := Lib.hid hSR
        rw [hL] at HSL
        have HLL := Lib.hid hL
        clear hT hSR hL
        go_wp2_with (at_builtin; go_must (refine wpList_append_sl _ rfl (.tmp 59) (.tmp 61) 24 24 rfl 30 i0 (.agg #[.string ⟨#[]⟩, .int .u16 0, .int .u16 0, .int .u32 0, .string ⟨#[]⟩]) 5 40 Try.underlying24 hi0 hz0 hz1 hz2 rfl (.slice A7 L.length k7) L.length (flatV RRec.vs L) rfl HSL.out (.slice (some ⟨wc.heap.size + 1, 0, none⟩) 1 1) rfl 1 (flatV RRec.vs [⟨⟨#[0]⟩, 41, sz, T, s⟩]) HSR.out (by unfold maxLen; omega) (by omega) ?_); intro v3 w3 hs3 hg3 hv3; obtain ⟨A3', c3, rfl, hc3, hm3⟩ := hs3.shape; have K3 := kdApp hg3; have hx := HX.out; have B9 := ((hx.2.1.alloc _).alloc _).grown hg3 (fun e => hx.2.2.2.2.2.2.2 e.symm); have R9 := ((hx.2.2.2.1.alloc _).alloc _).grown hg3 (fun e => by have := hx.2.2.1.o7 _ (by rw [HLL.out]; exact e.symm); omega); have x0 := B9.cell 0; have x1 := B9.cell 1; have x2 := B9.cell 2; have x3 := B9.cell 3; have x4 := B9.cell 4; have x5 := B9.cell 5; have y5 := B9.frozen 5; have gl3 := B9.lt; have rl3 := R9.lt; have u0 := R9.cell 0; have u1 := R9.cell 1; have u2 := R9.cell 2; have u3 := R9.cell 3; have u4 := R9.cell 4; have u5 := R9.cell 5; have f0 := R9.frozen 0; have f1 := R9.frozen 1; have f2 := R9.frozen 2; have f3 := R9.frozen 3; have f4 := R9.frozen 4; have f5 := R9.frozen 5; have H3 := Lib.hid (And.intro hs3 (And.intro hg3 (And.intro hv3 (And.intro B9 (And.intro R9 K3))))); clear hs3 hg3 hv3 B9 R9 K3 hx hc3 hm3)
        have hx := HX.out
        have hz := H3.out
        have hLL := HLL.out
        have hgw := hx.2.1.lt
        have kw := kd1 (v := .slice A7 L.length k7) (kd1 (v := .slice A7 L.length k7) hz.2.2.2.2.2)
        have hD := hx.2.2.1.d
        have ho7 := hx.2.2.1.o7
        rw [hLL] at hD ho7
        have hown : ∀ q, (Value.slice A3' (L.length + 1) c3).ownBlock = some q → q ≠ g ∧ w.heap.size + 2 < q := fun q hq => by
          rcases hz.2.2.1 with e | e
          · have e2 := e.symm.trans hq
            exact ⟨fun e3 => hx.2.2.2.2.2.2.2 (e3 ▸ e2), by have := ho7 q e2; omega⟩
          · rw [hq] at e
            have := Option.some.inj e
            simp only [World.size_alloc] at this
            omega
        have km : KeepK (fun i => i ≠ w.heap.size + 1 + 1) (w3.setCell ⟨g, 5, none⟩ (.slice A3' (L.length + 1) c3)) _ := keep_msg _ (fun i hi => hi) (.int .u16 m.id) (.int .u16 m.bi) (.slice A2 m.q.length k2) (.slice A3 m.s.length k3) (.slice A4 m.h.length k4) (.slice A3' (L.length + 1) c3)
        have lt2 := hx.2.2.1.s2.lt
        have lt3 := hx.2.2.1.s3.lt
        have lt4 := hx.2.2.1.s4.lt
        have hlen : (L ++ [(⟨⟨#[0]⟩, 41, sz, T, s⟩ : RRec)]).length = L.length + 1 := by rw [List.length_append]; rfl
        have hput : putE m.e true sz hi ve fl s = L ++ [(⟨⟨#[0]⟩, 41, sz, T, s⟩ : RRec)] := by
          show leftsR 41 m.e ++ [_] = _
          rw [hLL, HT.out]
        have s7 : Sl (w3.setCell ⟨g, 5, none⟩ (.slice A3' (L.length + 1) c3)) 5 (.slice A3' (L.length + 1) c3) (L.length + 1) (flatV RRec.vs (L ++ [⟨⟨#[0]⟩, 41, sz, T, s⟩])) := by
          rw [flatV_append]
          exact hz.1.far (fun q hq => (hown q hq).1) _
        have s2 : Sl (w3.setCell ⟨g, 5, none⟩ (.slice A3' (L.length + 1) c3)) 3 _ _ _ := (hx.2.2.1.s2.keepK kw fun q hq => ⟨lt2 q hq, fun e => (hD q e).1 hq⟩).far (fun q hq e => hx.2.2.2.2.1 (by rw [hq]; exact congrArg some e)) _
        have s3 : Sl (w3.setCell ⟨g, 5, none⟩ (.slice A3' (L.length + 1) c3)) 5 _ _ _ := (hx.2.2.1.s3.keepK kw fun q hq => ⟨lt3 q hq, fun e => (hD q e).2.1 hq⟩).far (fun q hq e => hx.2.2.2.2.2.1 (by rw [hq]; exact congrArg some e)) _
        have s4 : Sl (w3.setCell ⟨g, 5, none⟩ (.slice A3' (L.length + 1) c3)) 5 _ _ _ := (hx.2.2.1.s4.keepK kw fun q hq => ⟨lt4 q hq, fun e => (hD q e).2.2 hq⟩).far (fun q hq e => hx.2.2.2.2.2.2.1 (by rw [hq]; exact congrArg some e)) _
        refine bodyPost_ret (res_cell_tmpE rfl _ _ (w.heap.size + 1 + 1) 26 _ _ rfl ((hz.2.2.2.2.1.far (p := ⟨g, 5, none⟩) (by show w.heap.size + 1 + 1 ≠ g; omega) _).msg _ _ _ _ _ _) Try.underlying26 rfl agg_msg) rfl ?_
        refine .inr ⟨s, A2, k2, A3, k3, A4, k4, A3', c3, HR.out.1, ?_, ?_, ?_⟩
        · rw [hput]; show _ = Ending.returned (.tuple #[MRec.val _, _]); unfold MRec.val; simp only [hlen]; rfl
        · rw [hput]
          refine ⟨GTab.of_sl QRec.three (s2.keepK km fun q hq e => ?_), rtab_of_sl (s3.keepK km fun q hq e => ?_), rtab_of_sl (s4.keepK km fun q hq e => ?_), rtab_of_sl (c := c3) (by rw [hlen]; exact s7.keepK km fun q hq e => by have := (hown q hq).2; omega)⟩
          · have := hx.2.2.1.o2 q hq; omega
          · have := hx.2.2.1.o3 q hq; omega
          · have := hx.2.2.1.o4 q hq; omega
        · have kb : KeepK (fun i => i < w.heap.size) wc w3 := kw.mono fun i hi => ⟨by have := HBW.out.size; omega, fun e => by have := ho7 i e; omega⟩
          rw [hput, hlen]
          exact ⟨((((KeepK.of_below (K := fun i => i < w.heap.size) HBW.out fun i hi => hi).trans kb).setCell (p := ⟨g, 5, none⟩) (fun i hi => by show i ≠ g; omega) _).trans (keep_msg _ (fun i hi => by omega) _ _ _ _ _ _)).below fun i hi => hi,
            s7.keepK km fun q hq e => by have := (hown q hq).2; omega, fun q hq => by have := (hown q hq).2; omega⟩
end Go.Proofs.Ythjkdpphbipgfaa
