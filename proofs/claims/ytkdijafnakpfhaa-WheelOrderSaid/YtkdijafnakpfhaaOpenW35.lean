/- Acts (hardtacklaw35.Act) among the arguments, opened. Conditions: none. -/
import Derived.Test.YtkdijafnakpfhaaOpenSF
import Derived.Test.YtkdijafnakpfhaaChecked
namespace Go.Proofs.Ytkdijafnakpfhaa
open Go.Joins Go.ChangeShapes Go.WideShapes Go.RowKit Go.Deep

/-- An act: what, which, when. -/
structure WAct where
  k : Int
  c : Int
  i : Int
def WAct.vs (e : WAct) : List Value := [.int .i64 e.k, .int .i64 e.c, .int .i64 e.i]
def WAct.ok (e : WAct) : Prop := (-9223372036854775808 ≤ e.k ∧ e.k ≤ 9223372036854775807) ∧ (-9223372036854775808 ≤ e.c ∧ e.c ≤ 9223372036854775807) ∧ -9223372036854775808 ≤ e.i ∧ e.i ≤ 9223372036854775807
/-- A slice that reads as acts. -/
def WTab (w : World) (A : Option Addr) (xs : List WAct) : Prop :=
  (∀ e ∈ xs, e.ok) ∧ (0 < xs.length → ∃ b off, A = some ⟨b, off, none⟩ ∧ b < w.heap.size ∧ ∀ (j : Nat) (e : WAct), xs[j]? = some e → ∀ i v, e.vs[i]? = some v → w.cell? ⟨b, off + j * 3 + i, none⟩ = some v)
theorem WTab.below {w w' : World} {A : Option Addr} {xs : List WAct} (h : WTab w A xs) (hb : Below w.heap.size w w') : WTab w' A xs := by
  refine ⟨h.1, fun hn => ?_⟩
  obtain ⟨b, off, hA, hlt, hc⟩ := h.2 hn
  refine ⟨b, off, hA, Nat.lt_of_lt_of_le hlt hb.size, fun j e he i v hv => ?_⟩
  rw [hb.cell (p := ⟨b, off + j * 3 + i, none⟩) hlt]
  exact hc j e he i v hv
theorem wact_cells : Try.prog.cellsOf 28 = 3 := by kernel_rfl
set_option maxRecDepth 100000 in
theorem open_wacts {H : Type} {enc : TypeId × Value → H} {W : World} {base b0 : Nat} {r : Reach} {spare : Nat → Bool} {held : Bool} {v : Value} {d : DataW H} {p : List MemPlace}
    (hv : Value.okWide Try.prog W r b0 22 v) (h : DataW.Trod enc Try.prog W base spare held 22 v d p) :
    ∃ (A : Option Addr) (xs : List WAct) (c : Nat), v = .slice A xs.length c ∧ WTab W A xs ∧ xs.length ≤ c ∧ c ≤ maxLen := by
  obtain ⟨a0, len0, cap0, rfl⟩ := okWide_slice Try.underlying22 hv
  obtain ⟨fuel, h5⟩ := h
  rcases open_slice_fields Try.underlying22 Try.underlying28 (by kernel_rfl) wact_cells h5 with ⟨e1, _⟩ | ⟨a, len, cap, m, D, Pl, e1, _, hl, hm, hmm, _, hf⟩
  · simp [Value.cells] at e1
    obtain ⟨rfl, rfl, rfl⟩ := e1
    exact ⟨none, [], 0, rfl, ⟨fun _ hx => absurd hx (by simp), fun hx => absurd hx (by simp)⟩, Nat.le_refl _, Nat.zero_le _⟩
  · simp [Value.cells] at e1
    obtain ⟨rfl, rfl, rfl⟩ := e1
    have hlm : len0 ≤ m := by rw [hmm]; split <;> omega
    have each : ∀ j, j < len0 → ∃ e : WAct, e.ok ∧ ∀ i u, e.vs[i]? = some u → W.cell? (a.add (j * 3 + i)) = some u := by
      intro j hj
      obtain ⟨ys, n', _, _, _, hc⟩ := hf j (by omega)
      obtain ⟨u0, z0, k0, _, t0⟩ := hc 0 _ rfl
      obtain ⟨u1, z1, k1, _, t1⟩ := hc 1 _ rfl
      obtain ⟨u2, z2, k2, _, t2⟩ := hc 2 _ rfl
      obtain ⟨m0, q0, _, w0⟩ := DataW.trod_int Try.underlying3 t0
      obtain ⟨m1, q1, _, w1⟩ := DataW.trod_int Try.underlying3 t1
      obtain ⟨m2, q2, _, w2⟩ := DataW.trod_int Try.underlying2 t2
      simp at q0 q1 q2
      subst q0 q1 q2
      refine ⟨⟨m0, m1, m2⟩, ⟨wf_i64 w0, wf_i64 w1, wf_i64 w2⟩, fun i u hu => ?_⟩
      match i, hu with
      | 0, hu => simp [WAct.vs] at hu; subst hu; exact k0
      | 1, hu => simp [WAct.vs] at hu; subst hu; exact k1
      | 2, hu => simp [WAct.vs] at hu; subst hu; exact k2
      | i + 3, hu => simp [WAct.vs] at hu
    obtain ⟨xs, hxl, hxs⟩ : ∃ xs : List WAct, xs.length = len0 ∧ ∀ (j : Nat) (e : WAct), xs[j]? = some e → e.ok ∧ ∀ i u, e.vs[i]? = some u → W.cell? (a.add (j * 3 + i)) = some u := by
      refine ⟨(List.range len0).pmap (fun j hj => Classical.choose (each j hj)) (fun j hj => List.mem_range.1 hj), by simp, fun j e he => ?_⟩
      obtain ⟨hj, rfl⟩ := List.getElem?_eq_some_iff.1 he
      simp only [List.getElem_pmap, List.getElem_range]
      simp at hj
      exact Classical.choose_spec (each j hj)
    subst hxl
    refine ⟨some a, xs, cap0, rfl, ⟨fun e he => ?_, fun hx => ?_⟩, hl, hm⟩
    · obtain ⟨j, hj, rfl⟩ := List.getElem_of_mem he
      exact (hxs j _ (List.getElem?_eq_getElem hj)).1
    · obtain ⟨b, off, spot⟩ := a
      have h00 := (hxs 0 xs[0] (List.getElem?_eq_getElem hx)).2 0 _ rfl
      have hspot : spot = none := by simpa [Addr.add] using World.cell?_spot h00
      subst hspot
      refine ⟨b, off, rfl, by have := cell_lt h00; simpa [Addr.add] using this, fun j e he i u hu => ?_⟩
      have := (hxs j e he).2 i u hu
      have ea : (⟨b, off, none⟩ : Addr).add (j * 3 + i) = ⟨b, off + j * 3 + i, none⟩ := by unfold Addr.add; split <;> simp_all <;> omega
      rw [ea] at this
      exact this
end Go.Proofs.Ytkdijafnakpfhaa
