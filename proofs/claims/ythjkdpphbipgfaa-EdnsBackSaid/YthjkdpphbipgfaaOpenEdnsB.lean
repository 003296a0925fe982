/- What a message says of itself (api.Edns) among the arguments, opened: numbers within their bounds, and options in memory. Conditions: none. -/
import Derived.Test.YthjkdpphbipgfaaRR
import Derived.Test.YthjkdpphbipgfaaOpt
namespace Go.Proofs.Ythjkdpphbipgfaa
open Go.Joins Go.ChangeShapes Go.WideShapes Go.RowKit Go.Deep
theorem edns_cellsB : Try.prog.cellsOf 45 = 6 := by kernel_rfl
theorem option_cellsB : Try.prog.cellsOf 92 = 2 := by kernel_rfl
set_option maxRecDepth 100000 in
theorem open_ednsB {H : Type} {enc : TypeId × Value → H} {W : World} {base b0 : Nat} {r : Reach} {spare : Nat → Bool} {held : Bool} {v : Value} {d : DataW H} {p : List MemPlace}
    (hv : Value.okWide Try.prog W r b0 45 v) (h : DataW.Trod enc Try.prog W base spare held 45 v d p) :
    ∃ (th : Bool) (sz hi ve fl : Int) (A : Option Addr) (xs : List Opt) (c : Nat), v = .agg #[.bool th, .int .u16 sz, .int .u8 hi, .int .u8 ve, .int .u16 fl, .slice A xs.length c] ∧ OTab W A xs ∧ (xs.length ≤ c ∧ c ≤ maxLen) ∧ (0 ≤ hi ∧ hi ≤ 255) ∧ (0 ≤ ve ∧ ve ≤ 255) ∧ 0 ≤ fl ∧ fl ≤ 65535 := by
  obtain ⟨cs, rfl, hcs, hall⟩ := open_fields' Try.underlying45 (by kernel_rfl) edns_cellsB hv h
  obtain ⟨c0, c1, c2, c3, c4, c5, rfl⟩ := array6' hcs
  obtain ⟨v0, y0, m0, e0, h0⟩ := hall 0 _ rfl
  obtain ⟨v1, y1, m1, e1, h1⟩ := hall 1 _ rfl
  obtain ⟨v2, y2, m2, e2, h2⟩ := hall 2 _ rfl
  obtain ⟨v3, y3, m3, e3, h3⟩ := hall 3 _ rfl
  obtain ⟨v4, y4, m4, e4, h4⟩ := hall 4 _ rfl
  obtain ⟨v5, y5, m5, e5, h5⟩ := hall 5 _ rfl
  simp at e0 e1 e2 e3 e4 e5
  subst e0 e1 e2 e3 e4 e5
  obtain ⟨th, q0, _⟩ := DataW.trod_bool Try.underlying4 h0
  obtain ⟨n1, q1, _, _⟩ := DataW.trod_int Try.underlying22 h1
  obtain ⟨n2, q2, _, f2⟩ := DataW.trod_int Try.underlying5 h2
  obtain ⟨n3, q3, _, f3⟩ := DataW.trod_int Try.underlying5 h3
  obtain ⟨n4, q4, _, f4⟩ := DataW.trod_int Try.underlying22 h4
  simp at q0 q1 q2 q3 q4
  subst q0 q1 q2 q3 q4
  rcases open_slice_fields Try.underlying43 Try.underlying92 (by kernel_rfl) option_cellsB h5 with ⟨e1, _⟩ | ⟨a, len, cap, m, D, Pl, e1, _, hl, hm, hmm, _, hf⟩
  · simp at e1
    subst e1
    exact ⟨th, n1, n2, n3, n4, none, [], 0, rfl, ⟨fun _ hx => absurd hx (by simp), fun hx => absurd hx (by simp)⟩, ⟨Nat.le_refl _, Nat.zero_le _⟩, wf_u8 f2, wf_u8 f3, wf_u16 f4⟩
  · simp at e1
    subst e1
    have hlm : len ≤ m := by rw [hmm]; split <;> omega
    have each : ∀ j, j < len → ∃ e : Opt, e.ok ∧ ∀ i u, e.vs[i]? = some u → W.cell? (a.add (j * 2 + i)) = some u := by
      intro j hj
      obtain ⟨ys, n', _, _, _, hc⟩ := hf j (by omega)
      obtain ⟨u0, z0, k0, _, t0⟩ := hc 0 _ rfl
      obtain ⟨u1, z1, k1, _, t1⟩ := hc 1 _ rfl
      obtain ⟨m0, q0, _, w0⟩ := DataW.trod_int Try.underlying22 t0
      obtain ⟨s1, q1, _, w1⟩ := DataW.trod_string Try.underlying9 t1
      simp at q0 q1
      subst q0 q1
      refine ⟨⟨m0, s1⟩, ⟨wf_u16 w0, w1⟩, fun i u hu => ?_⟩
      match i, hu with
      | 0, hu => simp [Opt.vs] at hu; subst hu; exact k0
      | 1, hu => simp [Opt.vs] at hu; subst hu; exact k1
      | i + 2, hu => simp [Opt.vs] at hu
    obtain ⟨xs, hxl, hxs⟩ : ∃ xs : List Opt, xs.length = len ∧ ∀ (j : Nat) (e : Opt), xs[j]? = some e → e.ok ∧ ∀ i u, e.vs[i]? = some u → W.cell? (a.add (j * 2 + i)) = some u := by
      refine ⟨(List.range len).pmap (fun j hj => Classical.choose (each j hj)) (fun j hj => List.mem_range.1 hj), by simp, fun j e he => ?_⟩
      obtain ⟨hj, rfl⟩ := List.getElem?_eq_some_iff.1 he
      simp only [List.getElem_pmap, List.getElem_range]
      simp at hj
      exact Classical.choose_spec (each j hj)
    subst hxl
    refine ⟨th, n1, n2, n3, n4, some a, xs, cap, rfl, ⟨fun e he => ?_, fun hx => ?_⟩, ⟨hl, hm⟩, wf_u8 f2, wf_u8 f3, wf_u16 f4⟩
    · obtain ⟨j, hj, rfl⟩ := List.getElem_of_mem he
      exact (hxs j _ (List.getElem?_eq_getElem hj)).1
    · obtain ⟨b, off, spot⟩ := a
      have h00 := (hxs 0 xs[0] (List.getElem?_eq_getElem hx)).2 0 _ rfl
      have hspot : spot = none := by simpa [Addr.add] using World.cell?_spot h00
      subst hspot
      refine ⟨b, off, rfl, by have := cell_lt h00; simpa [Addr.add] using this, fun j e he i u hu => ?_⟩
      have := (hxs j e he).2 i u hu
      have ea : (⟨b, off, none⟩ : Addr).add (j * 2 + i) = ⟨b, off + j * 2 + i, none⟩ := by unfold Addr.add; split <;> simp_all <;> omega
      rw [ea] at this
      exact this
end Go.Proofs.Ythjkdpphbipgfaa
