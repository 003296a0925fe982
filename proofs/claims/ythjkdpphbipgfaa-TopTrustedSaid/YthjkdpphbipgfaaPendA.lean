/- Queries, their places; the walks of pending.placeOf, pending.New. Conditions: none. Queries among the arguments, opened. Conditions: none. -/
import Derived.Test.YthjkdpphbipgfaaScrubMsg
import Derived.DeepKeys4
import Derived.Maps.OwnSet
import Derived.Deep.Slices
namespace Go.Proofs.Ythjkdpphbipgfaa
open Go.RowKit Go.Shelf Go.Lib

/-- A query. -/
structure QY where
  i : Int
  p : Int
  a : Int
  n : ByteArray
  ty : Int
  cl : Int
  ck : ByteArray
  tcp : Bool
  du : Int
  ta : Int
def QY.vs (q : QY) : List Value := [.int .u16 q.i, .int .u16 q.p, .int .u32 q.a, .string q.n, .int .u16 q.ty, .int .u16 q.cl, .string q.ck, .bool q.tcp, .int .i64 q.du, .int .i64 q.ta]
def QY.val (q : QY) : Value := .agg #[.int .u16 q.i, .int .u16 q.p, .int .u32 q.a, .string q.n, .int .u16 q.ty, .int .u16 q.cl, .string q.ck, .bool q.tcp, .int .i64 q.du, .int .i64 q.ta]
structure QY.Ok (q : QY) : Prop where
  i : 0 ≤ q.i ∧ q.i ≤ 65535
  p : 0 ≤ q.p ∧ q.p ≤ 65535
  a : 0 ≤ q.a ∧ q.a ≤ 4294967295
  n : q.n.size ≤ maxLen
  ck : q.ck.size ≤ maxLen
theorem QY.ten (q : QY) : q.vs.length = 10 := rfl
def QYTab (w : World) (A : Option Addr) (xs : List QY) : Prop := GTab QY.vs 10 w A xs
theorem QYTab.below {w w' : World} {A : Option Addr} {xs : List QY} (h : QYTab w A xs) (hb : Below w.heap.size w w') : QYTab w' A xs := GTab.below h hb
theorem QYTab.cells {w : World} {A : Option Addr} {xs : List QY} (h : QYTab w A xs) {k : Nat} {e : QY} (he : xs[k]? = some e) : ∃ b off, A = some ⟨b, off, none⟩ ∧ b < w.heap.size ∧
    ∀ i u, e.vs[i]? = some u → w.cell? ⟨b, off + k * 10 + i, none⟩ = some u := by
  obtain ⟨b, off, hA, hb, hc⟩ := h (by have := (List.getElem?_eq_some_iff.1 he).1; omega)
  exact ⟨b, off, hA, hb, hc k e he⟩
def plV (i p a : Int) (t : Bool) : Value := .agg #[.int .u16 i, .int .u16 p, .int .u32 a, .bool t]

theorem placeOf_any (q : QY) (w : World) : Calls Try.prog 66 #[q.val] w fun e w' => e = .returned (plV q.i q.p q.a q.tcp) ∧ Below w.heap.size w w' := by
  unfold QY.val
  go_enter Try.func66, Try.ntmps66
  go_wp2
  refine bodyPost_ret (v := plV q.i q.p q.a q.tcp) (by simp [results, Try.results66, go_sem, plV]) rfl ?_
  exact ⟨rfl, ((Below.refl _ _).alloc (Nat.le_refl _) _).alloc (by simp) _⟩

theorem pnew_any (w : World) : Calls Try.prog 30 #[.int .i64 64] w fun e w' => ∃ g mb, e = .returned (.tuple #[.pointer (some ⟨g, 0, none⟩), .int .i64 0]) ∧ Blk w' g 115 #[.int .i64 64, .slice none 0 0, .map (some mb)] ∧ MapV Try.prog 117 w' mb 0 (fun _ => none) ∧ Below w.heap.size w w' ∧ w.heap.size ≤ g ∧ w.heap.size ≤ mb ∧ g ≠ mb := by
  have hmm : ∀ W : World, (Instr.makeMap 113 none).run Try.prog W = .ok (.map (some W.heap.size)) (W.alloc (.map #[] 0)) := fun W => rfl
  go_enter Try.func30, Try.ntmps30
  go_wp2_with (fail)
  go_ret2
  have hB : Blk ((w.alloc (.map #[] 0)).alloc (.cells #[.int .i64 64, .slice none 0 0, .map (some w.heap.size)] 115)) (w.heap.size + 1) 115 #[.int .i64 64, .slice none 0 0, .map (some w.heap.size)] := by
    have h1 := Blk.new (w.alloc (.map #[] 0)) 115 #[.int .i64 64, .slice none 0 0, .map (some w.heap.size)]
    rw [World.size_alloc] at h1
    exact h1
  exact ⟨_, _, rfl, hB, (MapV.made w _ _).alloc _, ((Below.refl _ _).alloc (Nat.le_refl _) _).alloc (by simp) _, by omega, Nat.le_refl _, by omega⟩
end Go.Proofs.Ythjkdpphbipgfaa

namespace Go.Proofs.Ythjkdpphbipgfaa
open Go.Joins Go.ChangeShapes Go.WideShapes Go.RowKit Go.Deep

section
variable {H : Type} {enc : TypeId × Value → H} {P : Program} {w : World} {base : Nat} {spare : Nat → Bool} {held : Bool}
theorem open_slice_struct {t e : TypeId} {fs : Array Field} {fuel : Nat} {cs : List Value} {x : DataW H × List MemPlace} (ht : P.underlying t = some (.slice e)) (he : P.underlying e = some (.struct fs))
    (h : DataW.trod enc P w base spare held fuel t cs = some x) :
    cs = [.slice none 0 0] ∨
    ∃ (a : Addr) (len cap : Nat), cs = [.slice (some a) len cap] ∧ len ≤ cap ∧ cap ≤ maxLen ∧
      ∀ i, i < len → ∃ (cs' : List Value) (n : Nat), cs'.length = P.cellsOf e ∧ (∀ (j : Nat) v, cs'[j]? = some v → w.cell? (a.add (i * P.cellsOf e + j)) = some v) ∧
        ∀ (j : Nat) (f : Field), fs[j]? = some f → ∃ y, DataW.trod enc P w base spare held n f.type ((cs'.drop f.offset).take (P.cellsOf f.type)) = some y := by
  rcases open_slice ht h with h0 | ⟨a, len, cap, m, n, D, Pl, hcs, hb, hl, hm, hmm, hx, hi⟩
  · exact .inl h0.1
  · have hlm : len ≤ m := by rw [hmm]; split <;> omega
    refine .inr ⟨a, len, cap, hcs, hl, hm, fun i him => ?_⟩
    obtain ⟨cs', hc, ht'⟩ := hi i (by omega)
    obtain ⟨ys, n', hn', hy, hlen, hyl, hf⟩ := DataW.trod_struct he ht'
    obtain ⟨_, hcl, hat⟩ := World.cells?_some hc
    refine ⟨cs', n', hcl, fun j v hv => ?_, fun j f hj => ?_⟩
    · have hjl : j < P.cellsOf e := by have := (List.getElem?_eq_some_iff.1 hv).1; omega
      rw [← Go.Deep.add_add, hat j hjl, hv]
    · have h1 := hf j f hj
      have hjl : j < ys.length := by rw [hyl]; exact (Array.getElem?_eq_some_iff.1 hj).1
      exact ⟨_, h1.trans (List.getElem?_eq_getElem hjl)⟩
end
theorem list10 {α : Type} {l : List α} (h : l.length = 10) : ∃ a b c d e f g i j k, l = [a, b, c, d, e, f, g, i, j, k] := by
  match l, h with
  | [a, b, c, d, e, f, g, i, j, k], _ => exact ⟨a, b, c, d, e, f, g, i, j, k, rfl⟩
theorem query_cells : Try.prog.cellsOf 65 = 10 := by kernel_rfl
theorem question_cells3 : Try.prog.cellsOf 63 = 3 := by kernel_rfl
theorem string_cells1 : Try.prog.cellsOf 9 = 1 := by kernel_rfl
theorem u16_cells1 : Try.prog.cellsOf 22 = 1 := by kernel_rfl
theorem u32_cells1 : Try.prog.cellsOf 28 = 1 := by kernel_rfl
theorem rtype_cells1 : Try.prog.cellsOf 27 = 1 := by kernel_rfl
theorem bool_cells1 : Try.prog.cellsOf 4 = 1 := by kernel_rfl
theorem i64_cells1 : Try.prog.cellsOf 2 = 1 := by kernel_rfl
theorem int_cells1 : Try.prog.cellsOf 3 = 1 := by kernel_rfl
set_option maxRecDepth 100000 in
theorem open_queries {H : Type} {enc : TypeId × Value → H} {W : World} {base b0 : Nat} {r : Reach} {spare : Nat → Bool} {held : Bool} {v : Value} {d : DataW H} {p : List MemPlace}
    (hv : Value.okWide Try.prog W r b0 58 v) (h : DataW.Trod enc Try.prog W base spare held 58 v d p) :
    ∃ (A : Option Addr) (xs : List QY) (c : Nat), v = .slice A xs.length c ∧ QYTab W A xs ∧ (∀ q ∈ xs, q.Ok) ∧ xs.length ≤ c ∧ c ≤ maxLen := by
  obtain ⟨a0, len0, cap0, rfl⟩ := okWide_slice Try.underlying58 hv
  obtain ⟨fuel, h5⟩ := h
  rcases open_slice_struct Try.underlying58 Try.underlying65 h5 with e1 | ⟨a, len, cap, e1, hl, hm, hf⟩
  · simp [Value.cells] at e1
    obtain ⟨rfl, rfl, rfl⟩ := e1
    exact ⟨none, [], 0, rfl, GTab.nil_, fun _ hx => absurd hx (by simp), Nat.le_refl _, Nat.zero_le _⟩
  · simp [Value.cells] at e1
    obtain ⟨rfl, rfl, rfl⟩ := e1
    rw [query_cells] at hf
    have each : ∀ j, j < len0 → ∃ q : QY, q.Ok ∧ ∀ i u, q.vs[i]? = some u → W.cell? (a.add (j * 10 + i)) = some u := by
      intro j hj
      obtain ⟨cs', n, hcl, hat, hff⟩ := hf j hj
      obtain ⟨u0, u1, u2, u3, u4, u5, u6, u7, u8, u9, rfl⟩ := list10 hcl
      obtain ⟨y0, t0⟩ : ∃ y, DataW.trod enc Try.prog W base spare held n 22 (([u0, u1, u2, u3, u4, u5, u6, u7, u8, u9].drop 0).take (Try.prog.cellsOf 22)) = some y := hff 0 _ rfl
      obtain ⟨y1, t1⟩ : ∃ y, DataW.trod enc Try.prog W base spare held n 22 (([u0, u1, u2, u3, u4, u5, u6, u7, u8, u9].drop 1).take (Try.prog.cellsOf 22)) = some y := hff 1 _ rfl
      obtain ⟨y2, t2⟩ : ∃ y, DataW.trod enc Try.prog W base spare held n 28 (([u0, u1, u2, u3, u4, u5, u6, u7, u8, u9].drop 2).take (Try.prog.cellsOf 28)) = some y := hff 2 _ rfl
      obtain ⟨y3, t3⟩ : ∃ y, DataW.trod enc Try.prog W base spare held n 63 (([u0, u1, u2, u3, u4, u5, u6, u7, u8, u9].drop 3).take (Try.prog.cellsOf 63)) = some y := hff 3 _ rfl
      obtain ⟨y4, t4⟩ : ∃ y, DataW.trod enc Try.prog W base spare held n 9 (([u0, u1, u2, u3, u4, u5, u6, u7, u8, u9].drop 6).take (Try.prog.cellsOf 9)) = some y := hff 4 _ rfl
      obtain ⟨y5, t5⟩ : ∃ y, DataW.trod enc Try.prog W base spare held n 4 (([u0, u1, u2, u3, u4, u5, u6, u7, u8, u9].drop 7).take (Try.prog.cellsOf 4)) = some y := hff 5 _ rfl
      obtain ⟨y6, t6⟩ : ∃ y, DataW.trod enc Try.prog W base spare held n 2 (([u0, u1, u2, u3, u4, u5, u6, u7, u8, u9].drop 8).take (Try.prog.cellsOf 2)) = some y := hff 6 _ rfl
      obtain ⟨y7, t7⟩ : ∃ y, DataW.trod enc Try.prog W base spare held n 3 (([u0, u1, u2, u3, u4, u5, u6, u7, u8, u9].drop 9).take (Try.prog.cellsOf 3)) = some y := hff 7 _ rfl
      rw [u16_cells1] at t0 t1
      rw [u32_cells1] at t2
      rw [question_cells3] at t3
      rw [string_cells1] at t4
      rw [bool_cells1] at t5
      rw [i64_cells1] at t6
      rw [int_cells1] at t7
      simp only [List.drop, List.take] at t0 t1 t2 t3 t4 t5 t6 t7
      obtain ⟨m0, q0, _, w0⟩ := DataW.trod_int Try.underlying22 t0
      obtain ⟨m1, q1, _, w1⟩ := DataW.trod_int Try.underlying22 t1
      obtain ⟨m2, q2, _, w2⟩ := DataW.trod_int Try.underlying28 t2
      obtain ⟨ys, n', _, _, _, hyl, hq⟩ := DataW.trod_struct Try.underlying63 t3
      have p0 : DataW.trod enc Try.prog W base spare held n' 9 (([u3, u4, u5].drop 0).take (Try.prog.cellsOf 9)) = ys[0]? := hq 0 _ rfl
      have p1 : DataW.trod enc Try.prog W base spare held n' 27 (([u3, u4, u5].drop 1).take (Try.prog.cellsOf 27)) = ys[1]? := hq 1 _ rfl
      have p2 : DataW.trod enc Try.prog W base spare held n' 22 (([u3, u4, u5].drop 2).take (Try.prog.cellsOf 22)) = ys[2]? := hq 2 _ rfl
      rw [string_cells1] at p0
      rw [rtype_cells1] at p1
      rw [u16_cells1] at p2
      simp only [List.drop, List.take] at p0 p1 p2
      have e0 : ys[0]? = some (ys[0]'(by rw [hyl]; decide)) := List.getElem?_eq_getElem _
      have e1 : ys[1]? = some (ys[1]'(by rw [hyl]; decide)) := List.getElem?_eq_getElem _
      have e2 : ys[2]? = some (ys[2]'(by rw [hyl]; decide)) := List.getElem?_eq_getElem _
      rw [e0] at p0
      rw [e1] at p1
      rw [e2] at p2
      obtain ⟨s3, q3, _, w3⟩ := DataW.trod_string Try.underlying9 p0
      obtain ⟨m4, q4, _, w4⟩ := DataW.trod_int Try.underlying27 p1
      obtain ⟨m5, q5, _, w5⟩ := DataW.trod_int Try.underlying22 p2
      obtain ⟨s6, q6, _, w6⟩ := DataW.trod_string Try.underlying9 t4
      obtain ⟨b7, q7, _⟩ := DataW.trod_bool Try.underlying4 t5
      obtain ⟨m8, q8, _, w8⟩ := DataW.trod_int Try.underlying2 t6
      obtain ⟨m9, q9, _, w9⟩ := DataW.trod_int Try.underlying3 t7
      simp at q0 q1 q2 q3 q4 q5 q6 q7 q8 q9
      subst q0 q1 q2 q3 q4 q5 q6 q7 q8 q9
      exact ⟨⟨m0, m1, m2, s3, m4, m5, s6, b7, m8, m9⟩, ⟨wf_u16 w0, wf_u16 w1, wf_u32 w2, w3, w6⟩, fun i u hu => hat i u hu⟩
    obtain ⟨xs, rfl, h1, h2⟩ := gtab_of_each QY.ten (by decide) each
    exact ⟨some a, xs, cap0, rfl, h1, h2, hl, hm⟩
end Go.Proofs.Ythjkdpphbipgfaa
