/- An argument that is a hash, opened: a table of sums in memory. (open_slice_fields follows the kit's lemma that is given to be copied.) A server's secrets among the arguments, opened: two texts. Conditions: none. -/
import Derived.Test.YtcphcgkbjlgkiaaTab
import Derived.Lib.SmallJoins
import Derived.Deep.Slices
import Derived.Deep.Fields
import Derived.ChangeSame
namespace Go.Proofs.Ytcphcgkbjlgkiaa
open Go.Joins Go.ChangeShapes Go.WideShapes Go.RowKit Go.Deep

section
variable {H : Type} {enc : TypeId × Value → H} {P : Program} {w : World} {base : Nat} {spare : Nat → Bool} {held : Bool}
theorem open_slice_fields {t e : TypeId} {fs : Array Field} {fuel : Nat} {cs : List Value} {x : DataW H × List MemPlace} (ht : P.underlying t = some (.slice e)) (he : P.underlying e = some (.struct fs))
    (hone : oneCellFields P fs = true) (hC : P.cellsOf e = fs.size) (h : DataW.trod enc P w base spare held fuel t cs = some x) :
    (cs = [.slice none 0 0] ∧ x = (.nil, [])) ∨
    ∃ (a : Addr) (len cap m : Nat) (D : Nat → DataW H) (Pl : Nat → List MemPlace), cs = [.slice (some a) len cap] ∧ base ≤ a.block ∧ len ≤ cap ∧ cap ≤ maxLen ∧ m = (if spare a.block then cap else len) ∧
      x = (.slice ((List.range len).map D) ((List.range (m - len)).map fun j => D (len + j)), MemPlace.row a (m * fs.size) ++ (List.range m).flatMap Pl) ∧
      ∀ i, i < m → ∃ (ys : List (DataW H × List MemPlace)) (n : Nat), D i = .agg (ys.map (·.1)) ∧ Pl i = ys.flatMap (·.2) ∧ ys.length = fs.size ∧
        ∀ (j : Nat) (f : Field), fs[j]? = some f → ∃ (v : Value) (y : DataW H × List MemPlace), w.cell? (a.add (i * fs.size + j)) = some v ∧ ys[j]? = some y ∧ DataW.trod enc P w base spare held n f.type [v] = some y := by
  rcases open_slice ht h with h0 | ⟨a, len, cap, m, n, D, Pl, hcs, hb, hl, hm, hmm, hx, hi⟩
  · exact .inl h0
  · refine .inr ⟨a, len, cap, m, D, Pl, hcs, hb, hl, hm, hmm, by rw [hC] at hx; exact hx, fun i him => ?_⟩
    obtain ⟨cs', hc, ht'⟩ := hi i him
    rw [hC] at hc
    obtain ⟨ys, n', hn', hy, hlen, hyl, hf⟩ := DataW.trod_struct he ht'
    obtain ⟨_, hcl, hat⟩ := World.cells?_some hc
    simp only [Prod.mk.injEq] at hy
    refine ⟨ys, n', hy.1, hy.2, hyl, fun j f hj => ?_⟩
    obtain ⟨ho, hk⟩ := hone_of hone j f hj
    have hjl : j < fs.size := (Array.getElem?_eq_some_iff.1 hj).1
    have hcell := hat j hjl
    have hv : cs'[j]? = some (cs'[j]'(by omega)) := List.getElem?_eq_getElem (by omega)
    have h1 := hf j f hj
    rw [ho, hk] at h1
    have hone' : (cs'.drop j).take 1 = [cs'[j]'(by omega)] := by
      rw [List.drop_eq_getElem_cons (by omega)]
      rfl
    rw [hone'] at h1
    have hys : ys[j]? = some (ys[j]'(by omega)) := List.getElem?_eq_getElem (by omega)
    refine ⟨_, _, ?_, hys, h1.trans hys⟩
    rw [← Go.Deep.add_add, hcell, hv]
end

theorem cell_lt {w : World} {a : Addr} {v : Value} (h : w.cell? a = some v) : a.block < w.heap.size := by
  rcases Nat.lt_or_ge a.block w.heap.size with hlt | hge
  · exact hlt
  · unfold World.cell? at h
    rw [Array.getElem?_eq_none hge] at h
    cases h
theorem hash_cells : Try.prog.cellsOf 27 = 2 := by kernel_rfl
theorem sum_cells : Try.prog.cellsOf 88 = 3 := by kernel_rfl
set_option maxRecDepth 100000 in
theorem open_hash {H : Type} {enc : TypeId × Value → H} {W : World} {base b0 : Nat} {r : Reach} {spare : Nat → Bool} {held : Bool} {v : Value} {d : DataW H} {p : List MemPlace}
    (hv : Value.okWide Try.prog W r b0 27 v) (h : DataW.Trod enc Try.prog W base spare held 27 v d p) :
    ∃ (i : Bool) (A : Option Addr) (xs : List Entry) (c : Nat), v = .agg #[.bool i, .slice A xs.length c] ∧ Tab W A xs ∧ xs.length ≤ c ∧ c ≤ maxLen := by
  obtain ⟨v0, v1, y0, y1, n, rfl, _, _, h0, h1⟩ := open_agg2 Try.underlying27 (by kernel_rfl) hash_cells hv h
  obtain ⟨i, e0, _⟩ := DataW.trod_bool Try.underlying4 h0
  simp at e0
  subst e0
  rcases open_slice_fields Try.underlying25 Try.underlying88 (by kernel_rfl) sum_cells h1 with ⟨e1, _⟩ | ⟨a, len, cap, m, D, Pl, e1, _, hl, hm, hmm, _, hf⟩
  · simp at e1
    subst e1
    exact ⟨i, none, [], 0, rfl, ⟨fun _ hx => absurd hx (by simp), fun hx => absurd hx (by simp)⟩, Nat.le_refl _, Nat.zero_le _⟩
  · simp at e1
    subst e1
    have hlm : len ≤ m := by rw [hmm]; split <;> omega
    have each : ∀ j, j < len → ∃ e : Entry, e.ok ∧ ∀ i u, e.vs[i]? = some u → W.cell? (a.add (j * 3 + i)) = some u := by
      intro j hj
      obtain ⟨ys, n', _, _, _, hc⟩ := hf j (by omega)
      obtain ⟨u0, z0, k0, _, t0⟩ := hc 0 _ rfl
      obtain ⟨u1, z1, k1, _, t1⟩ := hc 1 _ rfl
      obtain ⟨u2, z2, k2, _, t2⟩ := hc 2 _ rfl
      obtain ⟨s0, q0, _, w0⟩ := DataW.trod_string Try.underlying9 t0
      obtain ⟨s1, q1, _, w1⟩ := DataW.trod_string Try.underlying9 t1
      obtain ⟨m2, q2, _, w2⟩ := DataW.trod_int Try.underlying29 t2
      simp at q0 q1 q2
      subst q0 q1 q2
      refine ⟨⟨s0, s1, m2⟩, ⟨w0, w1, wf_u64 w2⟩, fun i u hu => ?_⟩
      match i, hu with
      | 0, hu => simp [Entry.vs] at hu; subst hu; exact k0
      | 1, hu => simp [Entry.vs] at hu; subst hu; exact k1
      | 2, hu => simp [Entry.vs] at hu; subst hu; exact k2
      | i + 3, hu => simp [Entry.vs] at hu
    obtain ⟨xs, hxl, hxs⟩ : ∃ xs : List Entry, xs.length = len ∧ ∀ (j : Nat) (e : Entry), xs[j]? = some e → e.ok ∧ ∀ i u, e.vs[i]? = some u → W.cell? (a.add (j * 3 + i)) = some u := by
      refine ⟨(List.range len).pmap (fun j hj => Classical.choose (each j hj)) (fun j hj => List.mem_range.1 hj), by simp, fun j e he => ?_⟩
      obtain ⟨hj, rfl⟩ := List.getElem?_eq_some_iff.1 he
      simp only [List.getElem_pmap, List.getElem_range]
      simp at hj
      exact Classical.choose_spec (each j hj)
    subst hxl
    refine ⟨i, some a, xs, cap, rfl, ⟨fun e he => ?_, fun hx => ?_⟩, hl, hm⟩
    · obtain ⟨j, hj, rfl⟩ := List.getElem_of_mem he
      exact (hxs j _ (List.getElem?_eq_getElem hj)).1
    · obtain ⟨b, off, spot⟩ := a
      have h00 := (hxs 0 xs[0] (List.getElem?_eq_getElem hx)).2 0 _ rfl
      have hspot : spot = none := by simpa [Addr.add] using World.cell?_spot h00
      subst hspot
      refine ⟨b, off, rfl, by have := cell_lt h00; simpa [Addr.add] using this, fun j e he i u hu => ?_⟩
      have := (hxs j e he).2 i u hu
      have ea : (⟨b, off, none⟩ : Addr).add (j * 3 + i) = ⟨b, off + j * 3 + i, none⟩ := by unfold Addr.add; split <;> simp_all <;> omega
      rw [ea] at this
      exact this
end Go.Proofs.Ytcphcgkbjlgkiaa

namespace Go.Proofs.Ytcphcgkbjlgkiaa
open Go.Joins Go.ChangeShapes Go.WideShapes Go.RowKit Go.Deep

theorem secrets_cells : Try.prog.cellsOf 59 = 2 := by kernel_rfl
set_option maxRecDepth 100000 in
theorem open_secrets {H : Type} {enc : TypeId × Value → H} {W : World} {base b0 : Nat} {r : Reach} {spare : Nat → Bool} {held : Bool} {v : Value} {d : DataW H} {p : List MemPlace}
    (hv : Value.okWide Try.prog W r b0 59 v) (h : DataW.Trod enc Try.prog W base spare held 59 v d p) :
    ∃ (s0 s1 : ByteArray), v = .agg #[.string s0, .string s1] ∧ s0.size ≤ maxLen ∧ s1.size ≤ maxLen := by
  obtain ⟨v0, v1, y0, y1, n, rfl, _, _, h0, h1⟩ := open_agg2 Try.underlying59 (by kernel_rfl) secrets_cells hv h
  obtain ⟨s0, q0, _, w0⟩ := DataW.trod_string Try.underlying9 h0
  obtain ⟨s1, q1, _, w1⟩ := DataW.trod_string Try.underlying9 h1
  simp at q0 q1
  subst q0 q1
  exact ⟨s0, s1, rfl, w0, w1⟩
end Go.Proofs.Ytcphcgkbjlgkiaa
