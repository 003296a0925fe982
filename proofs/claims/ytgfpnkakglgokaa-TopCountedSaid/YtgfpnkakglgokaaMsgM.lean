/- Results that lie in boxes; a struct's box written over, cell by cell. Conditions: none. The walks of rdata.Read where too few bytes are left, and of record.Read, at whatever bytes. Conditions: none. A message's bytes, plain: its six numbers, its questions. Conditions: none. -/
import Derived.Test.YtgfpnkakglgokaaEdRR
import Derived.Test.YtgfpnkakglgokaaRes
import Derived.Deep.RegionHeld3
import Derived.Deep.DrawnRows
import Derived.Laws.ResultCell
import Derived.Test.YtgfpnkakglgokaaRdRead
import Derived.Test.YtgfpnkakglgokaaRR
namespace Go.Proofs.Ytgfpnkakglgokaa
open Go.RowKit Go.Shelf Go.Lib

theorem results_cell_cell {fn : Func} {p q : Tmp} {ty tz : TypeId} (h : fn.results = #[.cell p ty, .cell q tz]) (tmps : Array Value) (P : Program) (w : World) :
    (results fn tmps).run P w =
      ((asAddr (tmps.getD p undef)).run P w).andThen fun a w₁ => ((loadVar ty a).run P w₁).andThen fun v w₂ => ((asAddr (tmps.getD q undef)).run P w₂).andThen fun b w₃ => ((loadVar tz b).run P w₃).andThen fun u w₄ => .ok (.tuple #[v, u]) w₄ := by
  simp only [results, h]
  simp [Sem.run_bind, Result.andThen]
theorem res_cell_cellE {P : Program} {fn : Func} {p q : Tmp} {ty tz : TypeId} (h : fn.results = #[.cell p ty, .cell q tz]) (tmps : Array Value) (w : World) (g : Nat) (t : TypeId) (cs : Array Value) (d : TypeDesc) (a : Addr) (u : Value)
    (hp : tmps.getD p undef = .pointer (some ⟨g, 0, none⟩)) (hg : Blk w g t cs) (hu : P.underlying ty = some d) (hd : (match d with | .struct _ | .array _ _ => true | _ => false) = true) (hi : (P.info? ty).map (·.size) = some cs.size)
    (hq : tmps.getD q undef = .pointer (some a)) (hl : (loadVar tz a).run P w = .ok u w) :
    (results fn tmps).run P w = .ok (.tuple #[.agg cs, u]) w := by
  rw [results_cell_cell h, hp, hq]
  simp [asAddr, Result.andThen, run_loadVar_row w g t ty cs _ d hg hu hd hi, hl]
theorem res_cell_tmpE {P : Program} {fn : Func} {p u : Tmp} {ty : TypeId} (h : fn.results = #[.cell p ty, .tmp u]) (tmps : Array Value) (w : World) (g : Nat) (t : TypeId) (cs : Array Value) (d : TypeDesc)
    (hp : tmps.getD p undef = .pointer (some ⟨g, 0, none⟩)) (hg : Blk w g t cs) (hu : P.underlying ty = some d) (hd : (match d with | .struct _ | .array _ _ => true | _ => false) = true) (hi : (P.info? ty).map (·.size) = some cs.size) :
    (results fn tmps).run P w = .ok (.tuple #[.agg cs, tmps.getD u undef]) w := by
  rw [results_cell_tmp h, hp]
  simp [asAddr, Result.andThen, run_loadVar_row w g t ty cs _ d hg hu hd hi]
theorem agg_msg : (Try.prog.info? 35).map (·.size) = some 6 := by kernel_rfl
def zeroMsg : Value := .agg #[.int .u16 0, .int .u16 0, .slice none 0 0, .slice none 0 0, .slice none 0 0, .slice none 0 0]
theorem agg_edns : (Try.prog.info? 38).map (·.size) = some 6 := by kernel_rfl
theorem load_errno (w : World) (a : Addr) (v : Value) (h : w.cell? a = some v) : (loadVar 28 a).run Try.prog w = .ok v w := by
  simp [loadVar, go_sem, h, Try.isAgg28, Try.sizeOf28]
/-- A message's cells, written over. -/
theorem Blk.msg {w : World} {g : Nat} {u0 u1 u2 u3 u4 u5 : Value} (h : Blk w g 35 #[u0, u1, u2, u3, u4, u5]) (v0 v1 v2 v3 v4 v5 : Value) :
    Blk ((((((w.setCell ⟨g, 0, none⟩ v0).setCell ⟨g, 1, none⟩ v1).setCell ⟨g, 2, none⟩ v2).setCell ⟨g, 3, none⟩ v3).setCell ⟨g, 4, none⟩ v4).setCell ⟨g, 5, none⟩ v5) g 35 #[v0, v1, v2, v3, v4, v5] := by
  have h := (((((h.set_ 0 v0).set_ 1 v1).set_ 2 v2).set_ 3 v3).set_ 4 v4).set_ 5 v5
  simpa using h
theorem keep_msg {K : Nat → Prop} (w : World) {g : Nat} (hg : ∀ i, K i → i ≠ g) (v0 v1 v2 v3 v4 v5 : Value) :
    KeepK K w ((((((w.setCell ⟨g, 0, none⟩ v0).setCell ⟨g, 1, none⟩ v1).setCell ⟨g, 2, none⟩ v2).setCell ⟨g, 3, none⟩ v3).setCell ⟨g, 4, none⟩ v4).setCell ⟨g, 5, none⟩ v5) :=
  ((((((KeepK.refl K w).setCell (p := ⟨g, 0, none⟩) hg _).setCell (p := ⟨g, 1, none⟩) hg _).setCell (p := ⟨g, 2, none⟩) hg _).setCell (p := ⟨g, 3, none⟩) hg _).setCell (p := ⟨g, 4, none⟩) hg _).setCell (p := ⟨g, 5, none⟩) hg _
theorem Blk.edns {w : World} {g : Nat} {u0 u1 u2 u3 u4 u5 : Value} (h : Blk w g 38 #[u0, u1, u2, u3, u4, u5]) (v0 v1 v2 v3 v4 v5 : Value) :
    Blk ((((((w.setCell ⟨g, 0, none⟩ v0).setCell ⟨g, 1, none⟩ v1).setCell ⟨g, 2, none⟩ v2).setCell ⟨g, 3, none⟩ v3).setCell ⟨g, 4, none⟩ v4).setCell ⟨g, 5, none⟩ v5) g 38 #[v0, v1, v2, v3, v4, v5] := by
  have h := (((((h.set_ 0 v0).set_ 1 v1).set_ 2 v2).set_ 3 v3).set_ 4 v4).set_ 5 v5
  simpa using h
theorem src_rrE {P : Program} {tx e' : TypeId} (hk : P.underlying tx = some (.slice e')) (w : World) (t : TypeId) (r : RRec) :
    Src P 5 tx (.slice (some ⟨w.heap.size, 0, none⟩) 1 1) 1 (flatV RRec.vs [r]) (w.alloc (.cells #[.string r.n, .int .u16 r.t, .int .u16 r.c, .int .u32 r.l, .string r.d] t)) :=
  Src.ofSlice _ hk ⟨w.heap.size, 0, none⟩ 1 1 _ rfl (fun j x hx => by
    rw [add_lit', Nat.zero_add, World.cell?_alloc_new]
    rw [flatV_one] at hx
    rw [← hx, RRec.vs]
    simp) (rr_oneE _)
theorem agg_rr : (Try.prog.info? 85).map (·.size) = some 5 := by kernel_rfl
theorem Blk.rr5 {w : World} {g : Nat} {u0 u1 u2 u3 u4 : Value} (h : Blk w g 85 #[u0, u1, u2, u3, u4]) (v0 v1 v2 v3 v4 : Value) :
    Blk (((((w.setCell ⟨g, 0, none⟩ v0).setCell ⟨g, 1, none⟩ v1).setCell ⟨g, 2, none⟩ v2).setCell ⟨g, 3, none⟩ v3).setCell ⟨g, 4, none⟩ v4) g 85 #[v0, v1, v2, v3, v4] := by
  have h := ((((h.set_ 0 v0).set_ 1 v1).set_ 2 v2).set_ 3 v3).set_ 4 v4
  simpa using h
theorem keep_rr5 {K : Nat → Prop} (w : World) {g : Nat} (hg : ∀ i, K i → i ≠ g) (v0 v1 v2 v3 v4 : Value) :
    KeepK K w (((((w.setCell ⟨g, 0, none⟩ v0).setCell ⟨g, 1, none⟩ v1).setCell ⟨g, 2, none⟩ v2).setCell ⟨g, 3, none⟩ v3).setCell ⟨g, 4, none⟩ v4) :=
  (((((KeepK.refl K w).setCell (p := ⟨g, 0, none⟩) hg _).setCell (p := ⟨g, 1, none⟩) hg _).setCell (p := ⟨g, 2, none⟩) hg _).setCell (p := ⟨g, 3, none⟩) hg _).setCell (p := ⟨g, 4, none⟩) hg _
end Go.Proofs.Ytgfpnkakglgokaa

namespace Go.Proofs.Ytgfpnkakglgokaa
open Go.RowKit Go.Lib

/-- How a number is read. -/
def numM (l : Bs) (st : Nat × Bool) (k : Nat) : Nat × (Nat × Bool) := if st.2 = true then (0, st) else if k ≤ l.length - st.1 then (beN ((l.drop st.1).take k), (st.1 + k, false)) else (0, (st.1, true))
def NumPost (b : Nat) (s : ByteArray) (x : Nat × (Nat × Bool)) (w : World) (e : Ending) (w' : World) : Prop :=
  e = .returned (.int .u64 (x.1 : Int)) ∧ Rd w' b s x.2.1 x.2.2 ∧ But b w w' ∧ x.2.1 ≤ s.size
theorem num_st {w : World} {b : Nat} {s : ByteArray} {st : Nat × Bool} (h : Rd w b s st.1 st.2) (k : Nat) (hk : k = 1 ∨ k = 2 ∨ k = 4 ∨ k = 8) (hs : s.size ≤ 140737488355328) (ha : st.1 ≤ s.size) :
    Calls Try.prog 33 #[.pointer (some ⟨b, 0, none⟩), .int .i64 (k : Int)] w (NumPost b s (numM s.data.toList st k) w) := by
  have hsl : s.data.toList.length = s.size := by simp
  have hml : s.size ≤ maxLen := by unfold maxLen; omega
  obtain ⟨a, bad⟩ := st
  unfold numM NumPost
  dsimp only at h ha ⊢
  cases bad with
  | true =>
    rw [if_pos rfl]
    refine (rNum_bad h k hk).mono ?_
    rintro e w' ⟨rfl, rfl⟩
    exact ⟨rfl, h, But.refl _ _, ha⟩
  | false =>
    rw [if_neg (by decide), hsl]
    by_cases hc : k ≤ s.size - a
    · rw [if_pos hc]
      refine (rNum_yes h k hk hml (by omega)).mono ?_
      rintro e w' ⟨rfl, h1, h2⟩
      refine ⟨?_, h1, h2, by show a + k ≤ s.size; omega⟩
      rw [take_byte s a k (by omega)]
    · rw [if_neg hc]
      refine (rNum_no h k hk hml ha (by omega)).mono ?_
      rintro e w' ⟨rfl, h1, h2⟩
      exact ⟨rfl, h1, h2, ha⟩
theorem numM_lt (l : Bs) (st : Nat × Bool) (k : Nat) : (numM l st k).1 < 256 ^ k := by
  unfold numM
  split
  · exact Nat.pow_pos (by decide)
  · split
    · exact Nat.lt_of_lt_of_le (beN_lt _) (Nat.pow_le_pow_right (by decide) (by rw [List.length_take]; omega))
    · exact Nat.pow_pos (by decide)

def PartNo (b : Nat) (s : ByteArray) (at' : Nat) (w : World) (e : Ending) (w' : World) : Prop :=
  ∃ g : Nat, e = .returned (.pointer (some ⟨g, 0, none⟩)) ∧ Rd w' g ⟨#[]⟩ 0 true ∧ Rd w' b s at' true ∧ But b w w'
set_option maxRecDepth 100000 in
set_option maxHeartbeats 1000000 in
theorem rPart_no {w : World} {b : Nat} {s : ByteArray} {at' : Nat} (h : Rd w b s at' false) (n : Nat) (hs : s.size ≤ 140737488355328) (ha : at' ≤ s.size) (hn : s.size < at' + n) :
    Calls Try.prog 69 #[.pointer (some ⟨b, 0, none⟩), .int .i64 (n : Int)] w (PartNo b s at' w) := by
  have HA := Lib.hid (rAt_any h)
  have HR := Lib.hid (rRaw_no h (n : Int) (by unfold maxLen; omega) ha (.inr (by omega)))
  clear h hs ha hn
  go_enter Try.func69, Try.ntmps69
  go_wp2_with (fail)
  with_reducible refine HA.out.mono ?_
  rintro e w' ⟨rfl, rfl⟩
  go_wp2_with (fail)
  with_reducible refine HR.out.mono ?_
  rintro e w1 ⟨rfl, hr1, hbt⟩
  have HB := Lib.hid (rBad_any hr1)
  have H1 := Lib.hid (And.intro hr1 hbt)
  clear hr1 hbt
  go_wp2_with (fail)
  with_reducible refine HB.out.mono ?_
  rintro e w2 ⟨rfl, rfl⟩
  go_wp2_with (fail)
  go_ret
  have hN := Blk.new w1 134 #[.string ⟨#[]⟩, .int .i64 0, .bool true]
  exact ⟨w1.heap.size, rfl, hN, Blk.alloc H1.out.1 _, (show KeepK _ _ _ from H1.out.2.alloc (fun i hi => Nat.lt_of_lt_of_le hi.1 H1.out.2.size) _)⟩
set_option maxRecDepth 100000 in
set_option maxHeartbeats 1000000 in
theorem rdRead_no {w : World} {b : Nat} {s : ByteArray} {a : Nat} (t : Int) (n : Nat) (h : Rd w b s a false) (hs : s.size ≤ 1000000) (ha : a ≤ s.size) (hn : s.size < a + n) :
    Calls Try.prog 59 #[.pointer (some ⟨b, 0, none⟩), .int .u16 t, .int .i64 (n : Int)] w fun e w' => e = .returned (.tuple #[.string ⟨#[]⟩, .int .i64 5]) ∧ Rd w' b s a true ∧ But b w w' := by
  have HP := Lib.hid (rPart_no h n (by omega) ha hn)
  clear h hs ha hn
  go_enter Try.func59, Try.ntmps59
  go_wp2_with (fail)
  with_reducible refine HP.out.mono ?_
  rintro e w1 ⟨g, rfl, hg, hb, hk⟩
  have HB := Lib.hid (rBad_any hg)
  have H1 := Lib.hid (And.intro hb hk)
  clear hg hb hk
  go_wp2_with (fail)
  with_reducible refine HB.out.mono ?_
  rintro e w2 ⟨rfl, rfl⟩
  go_wp2_with (fail)
  go_ret2
  exact ⟨rfl, H1.out.1, H1.out.2⟩

def rrZ : Value := .agg #[.string ⟨#[]⟩, .int .u16 0, .int .u16 0, .int .u32 0, .string ⟨#[]⟩]
/-- What record.Read answers: a record, or why there is none. -/
def RecPost (b : Nat) (s : ByteArray) (w : World) (e : Ending) (w' : World) : Prop :=
  ((∃ (r : RRec) (q : Nat), e = .returned (.tuple #[r.val, .int .i64 0]) ∧ Rd w' b s q false ∧ q ≤ s.size ∧ r.ok ∧ r.d.size ≤ 1000000) ∨ ∃ k : Int, k ≠ 0 ∧ e = .returned (.tuple #[rrZ, .int .i64 k])) ∧ But b w w'

/-- While a record is read: its box, the result's box, the reader. -/
structure RecS (w : World) (b : Nat) (s : ByteArray) (st : Nat × Bool) (n : ByteArray) (t c l : Int) (V : World) : Prop where
  got : Blk V (w.heap.size + 1) 85 #[.string n, .int .u16 t, .int .u16 c, .int .u32 l, .string ⟨#[]⟩]
  res : Blk V w.heap.size 85 #[.string ⟨#[]⟩, .int .u16 0, .int .u16 0, .int .u32 0, .string ⟨#[]⟩]
  rd : Rd V b s st.1 st.2
  kp : But b w V
  at_ : st.1 ≤ s.size
  sz : w.heap.size + 2 ≤ V.heap.size
  lt : b < w.heap.size
theorem RecS.turn {w : World} {b : Nat} {s : ByteArray} {st st' : Nat × Bool} {n : ByteArray} {t c l : Int} {V V' : World} (h : RecS w b s st n t c l V) (hr : Rd V' b s st'.1 st'.2) (hk : But b V V') (ha : st'.1 ≤ s.size) : RecS w b s st' n t c l V' :=
  ⟨hk.blk h.got (by have := h.lt; omega), hk.blk h.res (by have := h.lt; omega), hr, h.kp.trans hk, ha, Nat.le_trans h.sz hk.size, h.lt⟩
theorem RecS.name {w : World} {b : Nat} {s : ByteArray} {st : Nat × Bool} {n : ByteArray} {t c l : Int} {V : World} (h : RecS w b s st n t c l V) (x : ByteArray) : RecS w b s st x t c l (V.setCell ⟨w.heap.size + 1, 0, none⟩ (.string x)) :=
  ⟨by have := h.got.set_ 0 (.string x); simpa using this, h.res.far (by show w.heap.size ≠ w.heap.size + 1; omega) _, Blk.far h.rd (by have := h.lt; show b ≠ w.heap.size + 1; omega) _, KeepK.setCell h.kp (p := ⟨w.heap.size + 1, 0, none⟩) (fun i hi => by have := hi.1; show i ≠ w.heap.size + 1; omega) _, h.at_, by simp [World.setCell]; exact h.sz, h.lt⟩
theorem RecS.type {w : World} {b : Nat} {s : ByteArray} {st : Nat × Bool} {n : ByteArray} {t c l : Int} {V : World} (h : RecS w b s st n t c l V) (x : Int) : RecS w b s st n x c l (V.setCell ⟨w.heap.size + 1, 1, none⟩ (.int .u16 x)) :=
  ⟨by have := h.got.set_ 1 (.int .u16 x); simpa using this, h.res.far (by show w.heap.size ≠ w.heap.size + 1; omega) _, Blk.far h.rd (by have := h.lt; show b ≠ w.heap.size + 1; omega) _, KeepK.setCell h.kp (p := ⟨w.heap.size + 1, 1, none⟩) (fun i hi => by have := hi.1; show i ≠ w.heap.size + 1; omega) _, h.at_, by simp [World.setCell]; exact h.sz, h.lt⟩
theorem RecS.class {w : World} {b : Nat} {s : ByteArray} {st : Nat × Bool} {n : ByteArray} {t c l : Int} {V : World} (h : RecS w b s st n t c l V) (x : Int) : RecS w b s st n t x l (V.setCell ⟨w.heap.size + 1, 2, none⟩ (.int .u16 x)) :=
  ⟨by have := h.got.set_ 2 (.int .u16 x); simpa using this, h.res.far (by show w.heap.size ≠ w.heap.size + 1; omega) _, Blk.far h.rd (by have := h.lt; show b ≠ w.heap.size + 1; omega) _, KeepK.setCell h.kp (p := ⟨w.heap.size + 1, 2, none⟩) (fun i hi => by have := hi.1; show i ≠ w.heap.size + 1; omega) _, h.at_, by simp [World.setCell]; exact h.sz, h.lt⟩
theorem RecS.ttl {w : World} {b : Nat} {s : ByteArray} {st : Nat × Bool} {n : ByteArray} {t c l : Int} {V : World} (h : RecS w b s st n t c l V) (x : Int) : RecS w b s st n t c x (V.setCell ⟨w.heap.size + 1, 3, none⟩ (.int .u32 x)) :=
  ⟨by have := h.got.set_ 3 (.int .u32 x); simpa using this, h.res.far (by show w.heap.size ≠ w.heap.size + 1; omega) _, Blk.far h.rd (by have := h.lt; show b ≠ w.heap.size + 1; omega) _, KeepK.setCell h.kp (p := ⟨w.heap.size + 1, 3, none⟩) (fun i hi => by have := hi.1; show i ≠ w.heap.size + 1; omega) _, h.at_, by simp [World.setCell]; exact h.sz, h.lt⟩
theorem recS_new {w : World} {b : Nat} {s : ByteArray} {a : Nat} (h : Rd w b s a false) (ha : a ≤ s.size) :
    RecS w b s (a, false) ⟨#[]⟩ 0 0 0 ((w.alloc (.cells #[.string ⟨#[]⟩, .int .u16 0, .int .u16 0, .int .u32 0, .string ⟨#[]⟩] 85)).alloc (.cells #[.string ⟨#[]⟩, .int .u16 0, .int .u16 0, .int .u32 0, .string ⟨#[]⟩] 85)) := by
  refine ⟨?_, (Blk.new w _ _).alloc _, (Blk.alloc (Blk.alloc h _) _), ?_, ha, by simp, h.lt⟩
  · have := Blk.new (w.alloc (.cells #[.string ⟨#[]⟩, .int .u16 0, .int .u16 0, .int .u32 0, .string ⟨#[]⟩] 85)) 85 #[.string ⟨#[]⟩, .int .u16 0, .int .u16 0, .int .u32 0, .string ⟨#[]⟩]
    rw [World.size_alloc] at this
    exact this
  · exact ((KeepK.refl _ _).alloc (fun i hi => hi.1) _).alloc (fun i hi => by have := hi.1; simp; omega) _
theorem num2_lt (l : Bs) (st : Nat × Bool) : (numM l st 2).1 ≤ 65535 := by have h : _ < 65536 := numM_lt l st 2; omega
theorem num4_lt (l : Bs) (st : Nat × Bool) : (numM l st 4).1 ≤ 4294967295 := by have h : _ < 4294967296 := numM_lt l st 4; omega
theorem wrap2 {x : Nat} (h : x ≤ 65535) : IntKind.u16.wrap (x : Int) = (x : Int) := by rw [IntKind.wrap_u16]; omega
theorem wrap2i {x : Nat} (h : x ≤ 65535) : IntKind.i64.wrap (x : Int) = (x : Int) := IntWalk.i64_in _ (by omega)
theorem wrap4 {x : Nat} (h : x ≤ 4294967295) : IntKind.u32.wrap (x : Int) = (x : Int) := by rw [IntKind.wrap_u32]; omega
theorem rec_ok {x1 : Bs} {x2 x3 : Nat} {l : Int} {d : ByteArray} (h1 : x1.length ≤ 255) (h2 : x2 ≤ 65535) (h3 : x3 ≤ 65535) (h4 : 0 ≤ l ∧ l ≤ 4294967295) (h5 : d.size ≤ 1000000) : RRec.ok ⟨⟨x1.toArray⟩, x2, x3, l, d⟩ :=
  ⟨⟨by show x1.toArray.size ≤ maxLen; simp [maxLen]; omega, by show d.size ≤ maxLen; unfold maxLen; omega⟩, ⟨by show (0 : Int) ≤ x2; omega, by show (x2 : Int) ≤ 65535; omega⟩, ⟨by show (0 : Int) ≤ x3; omega, by show (x3 : Int) ≤ 65535; omega⟩, h4⟩
theorem num2_st {w : World} {b : Nat} {s : ByteArray} {st : Nat × Bool} (h : Rd w b s st.1 st.2) (hs : s.size ≤ 140737488355328) (ha : st.1 ≤ s.size) :
    Calls Try.prog 33 #[.pointer (some ⟨b, 0, none⟩), .int .i64 2] w (NumPost b s (numM s.data.toList st 2) w) := num_st h 2 (.inr (.inl rfl)) hs ha
theorem num4_st {w : World} {b : Nat} {s : ByteArray} {st : Nat × Bool} (h : Rd w b s st.1 st.2) (hs : s.size ≤ 140737488355328) (ha : st.1 ≤ s.size) :
    Calls Try.prog 33 #[.pointer (some ⟨b, 0, none⟩), .int .i64 4] w (NumPost b s (numM s.data.toList st 4) w) := num_st h 4 (.inr (.inr (.inl rfl))) hs ha
set_option maxRecDepth 100000 in
set_option maxHeartbeats 4000000 in
theorem recRead_any {w : World} {b : Nat} {s : ByteArray} {a : Nat} (h : Rd w b s a false) (hs : s.size ≤ 1000000) (ha : a ≤ s.size) :
    Calls Try.prog 36 #[.pointer (some ⟨b, 0, none⟩)] w (RecPost b s w) := by
  have h0 := recS_new h ha
  have HS := Lib.hid hs
  have hsp : s.size ≤ 140737488355328 := by omega
  clear h ha hs
  go_enter Try.func36, Try.ntmps36
  go_wp2_with (fail)
  generalize (w.alloc (.cells #[.string ⟨#[]⟩, .int .u16 0, .int .u16 0, .int .u32 0, .string ⟨#[]⟩] 85)).alloc (.cells #[.string ⟨#[]⟩, .int .u16 0, .int .u16 0, .int .u32 0, .string ⟨#[]⟩] 85) = V0 at h0 ⊢
  have HC := Lib.hid (name_st (st := (a, false)) h0.rd hsp h0.at_)
  with_reducible refine HC.out.mono ?_
  rintro e w1 ⟨rfl, hr, hk, ha⟩
  have hl1 := nameM_len s.data.toList (a, false)
  generalize nameM s.data.toList (a, false) = x1 at hr ha hl1 ⊢
  have h1 := h0.turn hr hk ha
  have q0 := h1.got.cell 0
  have f0 := h1.got.frozen 0
  have H1 := Lib.hid h1
  clear hr hk ha HC h0 h1
  go_wp2_with (fail)
  have h1 := H1.out.name ⟨x1.1.toArray⟩
  generalize w1.setCell ⟨w.heap.size + 1, 0, none⟩ (.string ⟨x1.1.toArray⟩) = v1 at h1 ⊢
  clear H1 q0 f0
  have HC := Lib.hid (num2_st h1.rd hsp h1.at_)
  with_reducible refine HC.out.mono ?_
  rintro e w2 ⟨rfl, hr, hk, ha⟩
  have hx2 := num2_lt s.data.toList x1.2
  generalize numM s.data.toList x1.2 2 = x2 at hr ha hx2 ⊢
  have h2 := h1.turn hr hk ha
  clear hr hk ha HC h1
  have q0 := h2.got.cell 1
  have f0 := h2.got.frozen 1
  have y0 := wrap2 hx2
  have H2 := Lib.hid h2
  have X2 := Lib.hid hx2
  clear h2 hx2
  go_wp2_with (fail)
  have h2 := H2.out.type (x2.1 : Int)
  generalize w2.setCell ⟨w.heap.size + 1, 1, none⟩ (.int .u16 (x2.1 : Int)) = v2 at h2 ⊢
  clear H2 q0 f0 y0
  have HC := Lib.hid (num2_st h2.rd hsp h2.at_)
  with_reducible refine HC.out.mono ?_
  rintro e w3 ⟨rfl, hr, hk, ha⟩
  have hx3 := num2_lt s.data.toList x2.2
  generalize numM s.data.toList x2.2 2 = x3 at hr ha hx3 ⊢
  have h3 := h2.turn hr hk ha
  clear hr hk ha HC h2
  have q0 := h3.got.cell 2
  have f0 := h3.got.frozen 2
  have y0 := wrap2 hx3
  have H3 := Lib.hid h3
  have X3 := Lib.hid hx3
  clear h3 hx3
  go_wp2_with (fail)
  have h3 := H3.out.class (x3.1 : Int)
  generalize w3.setCell ⟨w.heap.size + 1, 2, none⟩ (.int .u16 (x3.1 : Int)) = v3 at h3 ⊢
  clear H3 q0 f0 y0
  have HC := Lib.hid (num4_st h3.rd hsp h3.at_)
  with_reducible refine HC.out.mono ?_
  rintro e w4 ⟨rfl, hr, hk, ha⟩
  have hx4 := num4_lt s.data.toList x3.2
  generalize numM s.data.toList x3.2 4 = x4 at hr ha hx4 ⊢
  have h4 := h3.turn hr hk ha
  clear hr hk ha HC h3
  have q0 := h4.got.cell 3
  have f0 := h4.got.frozen 3
  have y0 := wrap4 hx4
  have H4 := Lib.hid h4
  have X4 := Lib.hid hx4
  clear h4 hx4
  go_wp2_with (fail)
  have h4 := H4.out.ttl (x4.1 : Int)
  generalize w4.setCell ⟨w.heap.size + 1, 3, none⟩ (.int .u32 (x4.1 : Int)) = v4 at h4 ⊢
  clear H4 q0 f0 y0
  have HC := Lib.hid (num2_st h4.rd hsp h4.at_)
  with_reducible refine HC.out.mono ?_
  rintro e w5 ⟨rfl, hr, hk, ha⟩
  have hx5 := num2_lt s.data.toList x4.2
  generalize numM s.data.toList x4.2 2 = x5 at hr ha hx5 ⊢
  have h5 := h4.turn hr hk ha
  clear hr hk ha HC h4
  have y0 := wrap2i hx5
  have HX5 := Lib.hid hx5
  have HB := Lib.hid (rBad_any h5.rd)
  have H5 := Lib.hid h5
  clear h5 hx5
  go_wp2_with (fail)
  with_reducible refine HB.out.mono ?_
  rintro e w6 ⟨rfl, rfl⟩
  have hbad : x5.2.2 = true ∨ x5.2.2 = false := by cases x5.2.2 <;> simp
  rcases hbad with hbad | hbad
  · rw [hbad]
    have q0 := H5.out.res.cell 0
    have q1 := H5.out.res.cell 1
    have q2 := H5.out.res.cell 2
    have q3 := H5.out.res.cell 3
    have q4 := H5.out.res.cell 4
    have f0 := H5.out.res.frozen 0
    have f1 := H5.out.res.frozen 1
    have f2 := H5.out.res.frozen 2
    have f3 := H5.out.res.frozen 3
    have f4 := H5.out.res.frozen 4
    clear hbad
    go_wp2_with (fail)
    have hd := H5.out.res.rr5 (.string ⟨#[]⟩) (.int .u16 0) (.int .u16 0) (.int .u32 0) (.string ⟨#[]⟩)
    have hk := keep_rr5 (K := fun i => i < w.heap.size ∧ i ≠ b) w5 (g := w.heap.size) (fun i hi => by have := hi.1; omega) (.string ⟨#[]⟩) (.int .u16 0) (.int .u16 0) (.int .u32 0) (.string ⟨#[]⟩)
    refine bodyPost_ret (res_cell_tmpE rfl _ _ w.heap.size 85 _ _ rfl hd Try.underlying85 rfl agg_rr) rfl ?_
    exact ⟨.inr ⟨5, by decide, rfl⟩, KeepK.trans H5.out.kp hk⟩
  · rw [hbad]
    have q1 := H5.out.got.cell 1
    have hrd : Rd w5 b s x5.2.1 false := by have := H5.out.rd; rw [hbad] at this; exact this
    have HR : RowKit.Hid (∀ V : World, V = w5 → Calls Try.prog 59 #[.pointer (some ⟨b, 0, none⟩), .int .u16 (x2.1 : Int), .int .i64 (x5.1 : Int)] V fun e w' => ((∃ k : Int, k ≠ 0 ∧ e = .returned (.tuple #[.string ⟨#[]⟩, .int .i64 k])) ∨ ∃ (d : ByteArray) (q : Nat), e = .returned (.tuple #[.string d, .int .i64 0]) ∧ Rd w' b s q false ∧ q ≤ s.size ∧ d.size ≤ 1000000) ∧ But b w5 w') := Lib.hid (by
      rintro V rfl
      by_cases hfit : x5.2.1 + x5.1 ≤ s.size
      · refine (rdRead_any (x2.1 : Int) x5.1 hrd HS.out hfit).mono ?_
        rintro e w' ⟨h, hr, hk⟩
        refine ⟨?_, hk⟩
        rcases h with ⟨_, rfl⟩ | ⟨d, hd, rfl⟩
        · exact .inl ⟨6, by decide, rfl⟩
        · refine .inr ⟨⟨d.toArray⟩, _, rfl, hr, hfit, ?_⟩
          unfold readD at hd
          split at hd
          · injection hd with hd
            have := readM_len (x2.1 : Int) (s.data.toList.take (x5.2.1 + x5.1)) x5.2.1 x5.1 (by have := HS.out; omega)
            rw [hd] at this
            show d.toArray.size ≤ 1000000
            simpa using this
          · cases hd
      · refine (rdRead_no (x2.1 : Int) x5.1 hrd HS.out H5.out.at_ (by omega)).mono ?_
        rintro e w' ⟨rfl, _, hk⟩
        exact ⟨.inl ⟨5, by decide, rfl⟩, hk⟩)
    clear hbad hrd HB y0
    go_wp2_with (fail)
    with_reducible refine (HR.out _ rfl).mono ?_
    rintro e w7 ⟨hd, hk⟩
    have g7 := hk.blk H5.out.got (by have := H5.out.lt; omega)
    have r7 := hk.blk H5.out.res (by have := H5.out.lt; omega)
    have hk7 := But.trans H5.out.kp hk
    have hsz7 := hk.size
    have hsz5 := H5.out.sz
    have q0 := r7.cell 0
    have q1 := r7.cell 1
    have q2 := r7.cell 2
    have q3 := r7.cell 3
    have q4 := r7.cell 4
    have f0 := r7.frozen 0
    have f1 := r7.frozen 1
    have f2 := r7.frozen 2
    have f3 := r7.frozen 3
    have f4 := r7.frozen 4
    rcases hd with ⟨k, hk0, rfl⟩ | ⟨d, q, rfl, hrq, hq, hdl⟩
    · have HK := Lib.hid (And.intro g7 (And.intro r7 (And.intro hk7 hk0)))
      have hkn : (k == 0) = false := by simpa using hk0
      clear g7 r7 hk7 hk HR hk0
      go_wp2_with (fail)
      have hd := HK.out.2.1.rr5 (.string ⟨#[]⟩) (.int .u16 0) (.int .u16 0) (.int .u32 0) (.string ⟨#[]⟩)
      have hk := keep_rr5 (K := fun i => i < w.heap.size ∧ i ≠ b) w7 (g := w.heap.size) (fun i hi => by have := hi.1; omega) (.string ⟨#[]⟩) (.int .u16 0) (.int .u16 0) (.int .u32 0) (.string ⟨#[]⟩)
      refine bodyPost_ret (res_cell_tmpE rfl _ _ w.heap.size 85 _ _ rfl hd Try.underlying85 rfl agg_rr) rfl ?_
      exact ⟨.inr ⟨k, HK.out.2.2.2, rfl⟩, KeepK.trans HK.out.2.2.1 hk⟩
    · have p0 := g7.cell 0
      have p1 := g7.cell 1
      have p2 := g7.cell 2
      have p3 := g7.cell 3
      have p4 := g7.cell 4
      have e3 := g7.frozen 3
      have e4 := g7.frozen 4
      have HK := Lib.hid (And.intro g7 (And.intro r7 (And.intro hk7 (And.intro hrq (And.intro hq hdl)))))
      clear g7 r7 hk7 hk HR hrq hq hdl
      have HL := Lib.hid (And.intro hl1 (And.intro X2.out (And.intro X3.out X4.out)))
      have hgs : w.heap.size + 2 ≤ w7.heap.size := by omega
      have hlt := H5.out.lt
      by_cases hl : x4.1 ≤ 2147483647
      · have hlI : ¬ (2147483647 : Int) < (x4.1 : Int) := by omega
        clear hl
        go_wp2_with (fail)
        refine bodyPost_ret (res_cell_tmpE rfl _ _ w.heap.size 85 _ _ rfl ((HK.out.2.1.far (p := ⟨w.heap.size + 1, 4, none⟩) (by show w.heap.size ≠ w.heap.size + 1; omega) _).rr5 _ _ _ _ _) Try.underlying85 rfl agg_rr) rfl ?_
        refine ⟨.inl ⟨⟨⟨x1.1.toArray⟩, x2.1, x3.1, x4.1, d⟩, q, rfl, ?_, HK.out.2.2.2.2.1, rec_ok hl1 X2.out X3.out (by have := X4.out; omega) HK.out.2.2.2.2.2, HK.out.2.2.2.2.2⟩, ?_⟩
        · exact Blk.keepK (K := fun i => i ≠ w.heap.size) (Blk.far HK.out.2.2.2.1 (p := ⟨w.heap.size + 1, 4, none⟩) (by show b ≠ w.heap.size + 1; omega) _) (keep_rr5 _ (fun i hi => hi) _ _ _ _ _) (by show b ≠ w.heap.size; omega)
        · exact KeepK.trans (KeepK.setCell HK.out.2.2.1 (p := ⟨w.heap.size + 1, 4, none⟩) (fun i hi => by have := hi.1; show i ≠ w.heap.size + 1; omega) _) (keep_rr5 _ (fun i hi => by have := hi.1; omega) _ _ _ _ _)
      · have hlI : (2147483647 : Int) < (x4.1 : Int) := by omega
        clear hl
        by_cases h41 : x2.1 = 41
        · have h41b : ((x2.1 : Int) == 41) = true := by simp [h41]
          clear h41
          go_wp2_with (fail)
          refine bodyPost_ret (res_cell_tmpE rfl _ _ w.heap.size 85 _ _ rfl ((HK.out.2.1.far (p := ⟨w.heap.size + 1, 4, none⟩) (by show w.heap.size ≠ w.heap.size + 1; omega) _).rr5 _ _ _ _ _) Try.underlying85 rfl agg_rr) rfl ?_
          refine ⟨.inl ⟨⟨⟨x1.1.toArray⟩, x2.1, x3.1, x4.1, d⟩, q, rfl, ?_, HK.out.2.2.2.2.1, rec_ok hl1 X2.out X3.out (by have := X4.out; omega) HK.out.2.2.2.2.2, HK.out.2.2.2.2.2⟩, ?_⟩
          · exact Blk.keepK (K := fun i => i ≠ w.heap.size) (Blk.far HK.out.2.2.2.1 (p := ⟨w.heap.size + 1, 4, none⟩) (by show b ≠ w.heap.size + 1; omega) _) (keep_rr5 _ (fun i hi => hi) _ _ _ _ _) (by show b ≠ w.heap.size; omega)
          · exact KeepK.trans (KeepK.setCell HK.out.2.2.1 (p := ⟨w.heap.size + 1, 4, none⟩) (fun i hi => by have := hi.1; show i ≠ w.heap.size + 1; omega) _) (keep_rr5 _ (fun i hi => by have := hi.1; omega) _ _ _ _ _)
        · have h41b : ((x2.1 : Int) == 41) = false := by simp; omega
          clear h41
          go_wp2_with (fail)
          refine bodyPost_ret (res_cell_tmpE rfl _ _ w.heap.size 85 _ _ rfl (((HK.out.2.1.far (p := ⟨w.heap.size + 1, 4, none⟩) (by show w.heap.size ≠ w.heap.size + 1; omega) _).far (p := ⟨w.heap.size + 1, 3, none⟩) (by show w.heap.size ≠ w.heap.size + 1; omega) _).rr5 _ _ _ _ _) Try.underlying85 rfl agg_rr) rfl ?_
          refine ⟨.inl ⟨⟨⟨x1.1.toArray⟩, x2.1, x3.1, 0, d⟩, q, rfl, ?_, HK.out.2.2.2.2.1, rec_ok (l := 0) hl1 X2.out X3.out (by omega) HK.out.2.2.2.2.2, HK.out.2.2.2.2.2⟩, ?_⟩
          · exact Blk.keepK (K := fun i => i ≠ w.heap.size) (Blk.far (Blk.far HK.out.2.2.2.1 (p := ⟨w.heap.size + 1, 4, none⟩) (by show b ≠ w.heap.size + 1; omega) _) (p := ⟨w.heap.size + 1, 3, none⟩) (by show b ≠ w.heap.size + 1; omega) _) (keep_rr5 _ (fun i hi => hi) _ _ _ _ _) (by show b ≠ w.heap.size; omega)
          · exact KeepK.trans (KeepK.setCell (KeepK.setCell HK.out.2.2.1 (p := ⟨w.heap.size + 1, 4, none⟩) (fun i hi => by have := hi.1; show i ≠ w.heap.size + 1; omega) _) (p := ⟨w.heap.size + 1, 3, none⟩) (fun i hi => by have := hi.1; show i ≠ w.heap.size + 1; omega) _) (keep_rr5 _ (fun i hi => by have := hi.1; omega) _ _ _ _ _)
end Go.Proofs.Ytgfpnkakglgokaa

namespace Go.Proofs.Ytgfpnkakglgokaa
open Go.RowKit Go.Lib

/-- The numbers ahead. -/
def headN (l : Bs) (i : Nat) : Nat := beN ((l.drop (2 * i)).take 2)
theorem headN_le (l : Bs) (i : Nat) : headN l i ≤ 65535 := by
  have h := beN_lt ((l.drop (2 * i)).take 2)
  have h2 : 256 ^ ((l.drop (2 * i)).take 2).length ≤ 256 ^ 2 := Nat.pow_le_pow_right (by decide) (by rw [List.length_take]; omega)
  unfold headN
  have : (256 : Nat) ^ 2 = 65536 := by decide
  omega
def headI (l : Bs) (k i : Nat) : Value := .int .i64 (if i < k then (headN l i : Int) else 0)
def headC (l : Bs) (k : Nat) : Array Value := #[headI l k 0, headI l k 1, headI l k 2, headI l k 3, headI l k 4, headI l k 5]
theorem headC_zero (l : Bs) : headC l 0 = #[.int .i64 0, .int .i64 0, .int .i64 0, .int .i64 0, .int .i64 0, .int .i64 0] := by simp [headC, headI]
theorem headC_set (l : Bs) {k : Nat} (hk : k < 6) : (headC l k).setIfInBounds k (.int .i64 (headN l k : Int)) = headC l (k + 1) := by
  have hc : k = 0 ∨ k = 1 ∨ k = 2 ∨ k = 3 ∨ k = 4 ∨ k = 5 := by omega
  rcases hc with rfl | rfl | rfl | rfl | rfl | rfl <;> simp [headC, headI]
theorem headC_at (l : Bs) {i : Nat} (hi : i < 6) : (headC l 6)[i]? = some (.int .i64 (headN l i : Int)) := by
  have hc : i = 0 ∨ i = 1 ∨ i = 2 ∨ i = 3 ∨ i = 4 ∨ i = 5 := by omega
  rcases hc with rfl | rfl | rfl | rfl | rfl | rfl <;> simp [headC, headI]
theorem headC_some (l : Bs) (k : Nat) {i : Nat} (hi : i < 6) : ∃ v, (headC l k)[i]? = some v := ⟨_, Array.getElem?_eq_getElem (by simp [headC]; exact hi)⟩
/-- How a question is read. -/
def askStep (l : Bs) (p : Nat) : Option (QRec × Nat) :=
  if (numM l (numM l (nameM l (p, false)).2 2).2 2).2.2 = true then none
  else some (⟨⟨(nameM l (p, false)).1.toArray⟩, ((numM l (nameM l (p, false)).2 2).1 : Int), ((numM l (numM l (nameM l (p, false)).2 2).2 2).1 : Int)⟩, (numM l (numM l (nameM l (p, false)).2 2).2 2).2.1)
/-- Questions that stand one behind the other, from place 12 on. -/
inductive AskR (l : Bs) : List QRec → Nat → Prop
  | nil : AskR l [] 12
  | snoc {qs : List QRec} {p : Nat} {q : QRec} {p' : Nat} : AskR l qs p → askStep l p = some (q, p') → AskR l (qs ++ [q]) p'
theorem AskR.one {l : Bs} {q : QRec} {p : Nat} (h : AskR l [q] p) : askStep l 12 = some (q, p) := by
  generalize hg : [q] = L at h
  cases h with
  | nil => cases hg
  | @snoc qs p0 q0 _ h1 h2 =>
    have hl := congrArg List.length hg
    rw [List.length_append, List.length_singleton, List.length_singleton] at hl
    obtain rfl : qs = [] := List.eq_nil_of_length_eq_zero (by omega)
    cases hg
    generalize hg' : ([] : List QRec) = L' at h1
    cases h1 with
    | nil => exact h2
    | snoc => simp at hg'
theorem AskR.zero {l : Bs} {p : Nat} (h : AskR l [] p) : p = 12 := by
  generalize hg : ([] : List QRec) = L at h
  cases h with
  | nil => rfl
  | snoc => simp at hg
/-- Bytes that are a message of one question and nothing else. -/
def GoodB (l : Bs) : Prop := ∃ q, 12 ≤ l.length ∧ headN l 2 = 1 ∧ headN l 3 = 0 ∧ headN l 4 = 0 ∧ headN l 5 = 0 ∧ askStep l 12 = some (q, l.length)
theorem GoodB.small {l : Bs} (h : GoodB l) {i : Nat} (hi : 2 ≤ i ∧ i < 6) : headN l i ≤ 1 := by
  obtain ⟨q, _, h2, h3, h4, h5, _⟩ := h
  have hc : i = 2 ∨ i = 3 ∨ i = 4 ∨ i = 5 := by omega
  rcases hc with rfl | rfl | rfl | rfl <;> omega
theorem GoodB.none {l : Bs} (h : GoodB l) {i : Nat} (hi : 3 ≤ i ∧ i < 6) : headN l i = 0 := by
  obtain ⟨q, _, h2, h3, h4, h5, _⟩ := h
  have hc : i = 3 ∨ i = 4 ∨ i = 5 := by omega
  rcases hc with rfl | rfl | rfl <;> omega
/-- What a message that was read holds. -/
structure MOk (l : Bs) (m : MRec) : Prop where
  id : m.id = headN l 0
  bi : m.bi = headN l 1
  ask : ∃ p, AskR l m.q p
  nq : m.q.length = headN l 2
  ns : m.s.length = headN l 3
  nh : m.h.length = headN l 4
  ne : m.e.length = headN l 5
  lq : m.q.length ≤ 4096 ∧ m.q.length ≤ m.qc ∧ m.qc ≤ maxLen
  ls : m.s.length ≤ 4096
  lh : m.h.length ≤ 4096
  le : m.e.length ≤ 4096 ∧ m.e.length ≤ m.ec ∧ m.ec ≤ maxLen
  ok : ∀ r ∈ m.e, r.ok ∧ r.d.size ≤ 1000000
def zeroMsgV : Value := .agg #[.int .u16 0, .int .u16 0, .slice none 0 0, .slice none 0 0, .slice none 0 0, .slice none 0 0]
def ReadMP (s : ByteArray) (w : World) (e : Ending) (w' : World) : Prop :=
  Below w.heap.size w w' ∧ ((∃ k : Int, k ≠ 0 ∧ e = .returned (.tuple #[zeroMsgV, .int .i64 k]) ∧ ¬ GoodB s.data.toList) ∨
    ∃ m : MRec, e = .returned (.tuple #[m.val, .int .i64 0]) ∧ m.In w' ∧ MOk s.data.toList m ∧ Sl w' 3 (.slice m.qA m.q.length m.qc) m.q.length (flatV QRec.vs m.q) ∧ ∀ g, (Value.slice m.qA m.q.length m.qc).ownBlock = some g → w.heap.size ≤ g)
end Go.Proofs.Ytgfpnkakglgokaa
