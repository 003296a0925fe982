/- The walk of minim.Steps. -/
import Derived.Test.YtjhhhkhcnohmiaaMinimS
import Derived.Test.YtjhhhkhcnohmiaaSl
import Derived.Deep.DeepMust
namespace Go.Proofs.Ytjhhhkhcnohmiaa
open Go.RowKit Go.Shelf
attribute [local go_sem] Oper.semAt_some

/-- The cells of a list of questions. -/
def flatQ (xs : List Qn) : List Value := xs.flatMap Qn.vs
theorem flatQ_length (xs : List Qn) : (flatQ xs).length = xs.length * 3 := by
  induction xs with
  | nil => rfl
  | cons e xs ih =>
    have : flatQ (e :: xs) = e.vs ++ flatQ xs := rfl
    rw [this, List.length_append, ih]; simp [Qn.vs]; omega
theorem flatQ_snoc (xs : List Qn) (x : Qn) : flatQ (xs ++ [x]) = flatQ xs ++ [.string x.n, .int .u16 x.t, .int .u16 x.c] := by simp [flatQ, Qn.vs]
theorem flatQ_at : ∀ (xs : List Qn) (k : Nat) (e : Qn) (i : Nat) (v : Value), xs[k]? = some e → e.vs[i]? = some v → (flatQ xs)[k * 3 + i]? = some v
  | [], k, e, i, v, h, _ => by simp at h
  | f :: xs, 0, e, i, v, h, hv => by
    have : f = e := by simpa using h
    subst this
    have h1 : flatQ (f :: xs) = f.vs ++ flatQ xs := rfl
    have hi : i < f.vs.length := (List.getElem?_eq_some_iff.1 hv).1
    rw [h1, Nat.zero_mul, Nat.zero_add, List.getElem?_append_left hi]
    exact hv
  | f :: xs, k + 1, e, i, v, h, hv => by
    have h1 : flatQ (f :: xs) = f.vs ++ flatQ xs := rfl
    have h2 : f.vs.length = 3 := rfl
    rw [h1, List.getElem?_append_right (by omega), h2, show (k + 1) * 3 + i - 3 = k * 3 + i by omega]
    exact flatQ_at xs k e i v (by simpa using h) hv
theorem src_three {P : Program} {tx e' : TypeId} (hk : P.underlying tx = some (.slice e')) (w : World) (t : TypeId) (a b c : Value) (h1 : a.oneCell' = true) (h2 : b.oneCell' = true) (h3 : c.oneCell' = true) : Src P 3 tx (.slice (some ⟨w.heap.size, 0, none⟩) 1 1) 1 [a, b, c] (w.alloc (.cells #[a, b, c] t)) :=
  Src.ofSlice _ hk ⟨w.heap.size, 0, none⟩ 1 1 [a, b, c] rfl (fun j x hx => by
    match j, hx with
    | 0, hx =>
      have : a = x := by simpa using hx
      subst this
      simp [Addr.add]
    | 1, hx =>
      have : b = x := by simpa using hx
      subst this
      simp [Addr.add]
    | 2, hx =>
      have : c = x := by simpa using hx
      subst this
      simp [Addr.add]
    | j + 3, hx => simp at hx) (fun x hx => by
      simp only [List.mem_cons, List.not_mem_nil, or_false] at hx
      rcases hx with rfl | rfl | rfl
      · exact h1
      · exact h2
      · exact h3)
theorem info_q : (Try.prog.info? 39).map (fun i => (i.zero, i.size, i.bytes)) = some (some (.agg #[.string ⟨#[]⟩, .int .u16 0, .int .u16 0]), 3, 24) := by kernel_rfl
theorem info_q3 : ∃ i, Try.prog.info? 39 = some i ∧ i.zero = some (.agg #[.string ⟨#[]⟩, .int .u16 0, .int .u16 0]) ∧ i.size = 3 ∧ i.bytes = 24 := by
  have h := info_q
  cases hi : Try.prog.info? 39 with
  | none => rw [hi] at h; cases h
  | some i =>
    rw [hi] at h
    simp only [Option.map_some, Option.some.injEq, Prod.mk.injEq] at h
    exact ⟨i, rfl, h.1, h.2.1, h.2.2⟩

theorem own_row {B : Nat} {w : World} {v v' : Value} (h : ∀ g, v.ownBlock = some g → B ≤ g) (hB : B ≤ w.heap.size) (hv : v'.ownBlock = v.ownBlock ∨ v'.ownBlock = some w.heap.size) : ∀ g, v'.ownBlock = some g → B ≤ g := by
  intro g hg
  rcases hv with e | e
  · exact h g (e.symm.trans hg)
  · rw [hg] at e
    have : g = w.heap.size := Option.some.inj e
    omega
theorem steps_short (q : Qn) (z : ByteArray) : (stepsL q z).length ≤ 256 := by
  cases h : withinB q.n.data.toList z.data.toList with
  | false => rw [(steps_no h).1]; simp
  | true =>
    obtain ⟨h1, h2⟩ := within_names h
    obtain ⟨hd, _⟩ := depth_yes h
    have := (isName_iff _).1 h1
    have := labs_length_le q.n.data.toList
    rw [steps_len h, hd]
    omega

set_option maxRecDepth 100000 in
set_option maxHeartbeats 2000000 in
theorem Steps_any (q : Qn) (z : ByteArray) (hq : q.n.size ≤ maxLen) (hz : z.size ≤ maxLen) (w : World) :
    Calls Try.prog 29 #[.agg #[.string q.n, .int .u16 q.t, .int .u16 q.c], .string z] w fun e w' => ∃ A c, e = .returned (.slice A (stepsL q z).length c) ∧ Sl w' 3 (.slice A (stepsL q z).length c) (stepsL q z).length (flatQ (stepsL q z)) ∧ Below w.heap.size w w' := by
  obtain ⟨n, hn⟩ : ∃ n : Nat, 8 ≤ n := ⟨8, by omega⟩
  refine (callsIn_wide (n := n)).1 ?_
  have h1n : 1 ≤ n := by omega
  have hshort := steps_short q z
  refine callsIn_of_wp_marks Try.func29 rfl trivial ?_ rfl
  simp only [Try.ntmps29, List.size_toArray, List.length_cons, List.length_nil, Nat.reduceAdd, Nat.reduceSub, Array.replicate_succ, Array.replicate_zero, List.push_toArray, List.append_toArray, List.nil_append, List.cons_append]
  gi_wp2_with (refine ⟨trivial, ?_⟩; gi_at_call 60; refine (steps_in _ q z _).mono ?_; rintro e w' ⟨rfl, rfl⟩)
  obtain ⟨W0, hW0⟩ : ∃ W0, (((w.alloc (.cells #[.string q.n, .int .u16 q.t, .int .u16 q.c] 39)).alloc (.cells #[.slice none 0 0] 40)).alloc (.cells #[.string q.n, .int .u16 q.t, .int .u16 q.c] 39)).alloc (.cells #[.string z] 9) = W0 := ⟨_, rfl⟩
  have hsz0 : W0.heap.size = w.heap.size + 4 := by rw [← hW0]; simp
  have hbW : Below w.heap.size w W0 := by rw [← hW0]; exact ((((Below.refl _ _).alloc (Nat.le_refl _) _).alloc (by simp) _).alloc (by simp; omega) _).alloc (by simp; omega) _
  have hout : Blk W0 (w.heap.size + 1) 40 #[.slice none 0 0] := by
    rw [← hW0]
    have := Blk.new (w.alloc (.cells #[.string q.n, .int .u16 q.t, .int .u16 q.c] 39)) 40 #[.slice none 0 0]
    rw [World.size_alloc] at this
    exact (this.alloc _).alloc _
  have hqb : Blk W0 (w.heap.size + 2) 39 #[.string q.n, .int .u16 q.t, .int .u16 q.c] := by
    rw [← hW0]
    have := Blk.new ((w.alloc (.cells #[.string q.n, .int .u16 q.t, .int .u16 q.c] 39)).alloc (.cells #[.slice none 0 0] 40)) 39 #[.string q.n, .int .u16 q.t, .int .u16 q.c]
    rw [World.size_alloc, World.size_alloc] at this
    exact this.alloc _
  have hzb : Blk W0 (w.heap.size + 2 + 1) 9 #[.string z] := by
    rw [← hW0]
    have := Blk.new (((w.alloc (.cells #[.string q.n, .int .u16 q.t, .int .u16 q.c] 39)).alloc (.cells #[.slice none 0 0] 40)).alloc (.cells #[.string q.n, .int .u16 q.t, .int .u16 q.c] 39)) 9 #[.string z]
    rw [World.size_alloc, World.size_alloc, World.size_alloc] at this
    exact this
  rw [hW0]
  clear hW0
  obtain ⟨i0, hi0, hz0, hz1, hz2⟩ := info_q3
  apply rangeMA (gf := 81) (lb := #[.pointer (some ⟨w.heap.size + 2, 0, none⟩), .pointer (some ⟨w.heap.size + 2 + 1, 0, none⟩)]) rfl (enters_of Try.func81 (by kernel_rfl) rfl)
    (steps1_M (w.heap.size + 2) q z hq hz W0 hqb hzb) (by omega) (Below.refl _ _) (fun _ => rfl)
    (fun X pre V => ∃ v, Blk V (w.heap.size + 1) 40 #[v] ∧ Sl V 3 v pre.length (flatQ pre) ∧ (∀ g, v.ownBlock = some g → X ≤ g) ∧ Below w.heap.size w V ∧ X ≤ V.heap.size ∧ w.heap.size + 4 ≤ X)
    (fun _ _ _ _ => False)
    ?hI (fun _ _ _ _ _ h => h.elim) ?h0 (fun x => .cells #[.string x.n, .int .u16 x.t, .int .u16 x.c] 39)
  case hI =>
    rintro X pre A A' ⟨v, h1, h2, h3, h4, h5, h6⟩ ho
    exact ⟨v, ho.blk h1 (by omega), h2.keep ho.size fun g hg => ho.block g (h2.lt g hg) (.inr (h3 g hg)), h3, ho.below h4 (Nat.le_refl _) (by omega), Nat.le_trans h5 ho.size, h6⟩
  case h0 =>
    intro X V hV hX
    exact ⟨_, (hV.block _ (by omega)).trans hout, Sl.nil _ _, fun g hg => by simp [Value.ownBlock] at hg, hbW.trans (hV.mono hbW.size), by omega, by have := hV.size; omega⟩
  case hassign =>
    intro l x V g K hg hK
    gi_wp2
    rw [← hg]
    exact hK
  case hbody =>
    rintro l X pre x g V hV hgV hG ⟨v, h1, h2, h3, h4, h5, h6⟩ hpre
    obtain ⟨A, c, rfl, hc1, hc2⟩ := h2.shape
    have hG' : Blk V g 39 #[.string x.n, .int .u16 x.t, .int .u16 x.c] := hG
    have c0 : V.cell? ⟨w.heap.size + 1, 0, none⟩ = some (.slice A pre.length c) := h1.cell 0
    have f0 := h1.frozen 0
    have e0 := hG'.cell 0
    have e1 := hG'.cell 1
    have e2 := hG'.cell 2
    have hlen := prefix_lt hpre
    have hl1 : w.heap.size + 1 < V.heap.size := h1.lt
    have hsl : Sl (V.alloc (.cells #[.string x.n, .int .u16 x.t, .int .u16 x.c] 39)) 3 (.slice A pre.length c) pre.length (flatQ pre) := h2.alloc _
    have hsrc := src_three (P := Try.prog) Try.underlying40 V 39 (.string x.n) (.int .u16 x.t) (.int .u16 x.c) rfl rfl rfl
    have HSL := Lib.hid hsl
    have HSR := Lib.hid hsrc
    have HV := Lib.hid (And.intro h1 (And.intro h2 (And.intro h3 (And.intro h4 (And.intro h5 (And.intro h6 (And.intro hV hgV)))))))
    clear hpre h1 h2 h3 h4 h5 h6 hsl hsrc hG hG' hV hgV hout hqb hzb
    gi_wp2_with (gi_at_builtin; go_must (refine wpListIn_append_sl _ rfl (.tmp 11) (.tmp 13) 40 40 rfl 39 i0 (.agg #[.string ⟨#[]⟩, .int .u16 0, .int .u16 0]) 3 24 Try.underlying40 hi0 hz0 hz1 hz2 rfl (.slice A pre.length c) pre.length (flatQ pre) rfl HSL.out _ rfl 1 [.string x.n, .int .u16 x.t, .int .u16 x.c] HSR.out (by unfold maxLen; omega) (by omega) ?_); intro v3 w3 hs3 hg3 hv3; obtain ⟨A3, c3, rfl, hc3, hm3⟩ := hs3.shape; have hx := HV.out; have k1 : Blk w3 (w.heap.size + 1) 40 #[.slice A pre.length c] := (hx.1.alloc _).grown hg3 (fun e => by have := hx.2.2.1 _ e.symm; have := hx.2.2.2.2.2.1; omega); have g0 := k1.cell 0; have p0 := k1.frozen 0; have H3 := Lib.hid (And.intro hs3 (And.intro hg3 (And.intro hv3 k1))); clear hs3 hg3 hv3 k1 hx hc3 hm3)
    obtain ⟨h1, h2, h3, h4, h5, h6, hV, hgV⟩ := HV.out
    obtain ⟨hs3, hg3, hv3, k1⟩ := H3.out
    have hrow : ∀ i, (Value.slice A pre.length c).ownBlock = some i → (i < W0.heap.size ∨ X ≤ i) ∧ (i < w.heap.size + 2 ∨ w.heap.size + 2 + 2 ≤ i) := fun i hi => by have := h3 i hi; omega
    refine ⟨((((KeepX.refl _ _ _ _ V).alloc _).grown hg3 hrow).trans (.cell _ (by show (w.heap.size + 1 < _ ∨ _) ∧ (w.heap.size + 1 < _ ∨ _); omega))), _, k1.set_ 0 _, ?_, ?_, ?_, ?_, h6⟩
    · rw [List.length_append, flatQ_snoc]
      refine hs3.far (p := ⟨w.heap.size + 1, 0, none⟩) (fun g hg => ?_) _
      have := own_row h3 (by simp; omega) hv3 g hg
      show g ≠ w.heap.size + 1
      omega
    · exact own_row h3 (by simp; omega) hv3
    · exact (((h4.alloc (by omega) _).grown hg3 (by simp; omega) (fun g hg => by have := h3 g hg; omega))).setCell (by show w.heap.size ≤ w.heap.size + 1; omega) _
    · have := hg3.size
      simp [World.setCell] at this ⊢
      omega
  case hdone =>
    rintro D X V hD hD2 ⟨v, h1, h2, h3, h4, h5, h6⟩ hK
    obtain ⟨A, c, rfl, hc1, hc2⟩ := h2.shape
    have c0 : V.cell? ⟨w.heap.size + 1, 0, none⟩ = some (.slice A (stepsL q z).length c) := h1.cell 0
    have HKB : Hid (Below w.heap.size w (V.putObj D (.deferred none))) := Lib.hid (h4.trans (belowK_b (w := w) (Nat.le_refl _) V D _ _ (by omega) hK rfl rfl))
    have hsl : Sl (V.putObj D (.deferred none)) 3 (.slice A (stepsL q z).length c) (stepsL q z).length (flatQ (stepsL q z)) := h2.keep (by simp) fun g hg => World.putObj_heap_other (by have := h3 g hg; omega)
    have HSL := Lib.hid hsl
    clear h1 h2 h3 h4 hsl hc1 hc2
    gi_wp2_with (fail)
    exact ⟨by simp, .inl ⟨_, _, rfl, run_takeDeferred hK, _, results_tmp rfl _ _ _, _, _, rfl, HSL.out, HKB.out⟩⟩
  case hstop =>
    rintro D X c pre V hD _ _ h _
    exact h.elim
end Go.Proofs.Ytjhhhkhcnohmiaa
