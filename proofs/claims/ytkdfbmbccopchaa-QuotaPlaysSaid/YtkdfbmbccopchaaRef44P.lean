/- The reference's queue: Put, in memory. Plain. Conditions: none. -/
import Derived.Test.YtkdfbmbccopchaaRef44O
namespace Go.Proofs.Ytkdfbmbccopchaa
open Go.RowKit Go.Lib

/-- A whole slice as the source of an append. -/
theorem src_sl {P : Program} {tx e' : TypeId} (hk : P.underlying tx = some (.slice e')) {W : World} {size n c : Nat} {A : Option Addr} {xs : List Value} (h : Sl W size (.slice A n c) n xs) (hx : ∀ u ∈ xs, u.oneCell' = true) : Src P size tx (.slice A n c) n xs W := by
  have hl := h.1
  rcases h.2 with ⟨hv, h0⟩ | ⟨g, cap, hv, _, _, _, _, h4⟩
  · injection hv with h1 h2 h3
    subst h1 h2 h3
    have hx0 : xs = [] := List.eq_nil_of_length_eq_zero (by simpa using hl)
    subst hx0
    exact Src.ofNil _ hk 0
  · injection hv with h1 h2 h3
    subst h1 h3
    exact Src.ofSlice _ hk ⟨g, 0, none⟩ n c xs hl (fun j u hu => by
      rw [Go.WideShapes.add_plain, Nat.zero_add]; exact h4 j u hu) hx
/-- What stands while Put is walked. -/
structure PW (w V : World) (room each : Int) (K : Nat → Prop) (lv : Value) (n : Nat) (rs : Rw) : Prop where
  b : Blk V w.heap.size 40 #[.int .i64 room, .int .i64 each, lv]
  z : Blk V (w.heap.size + 1) 40 #[.int .i64 0, .int .i64 0, .slice none 0 0]
  r : RQ V (fun i => (K i ∧ i < w.heap.size) ∨ w.heap.size + 2 ≤ i) lv n rs
  k : KeepK (fun i => i < w.heap.size) w V
  s : w.heap.size + 2 ≤ V.heap.size
section
variable {w V V' : World} {room each : Int} {K : Nat → Prop} {lv : Value} {n : Nat} {rs : Rw}
theorem PW.start (h : RQ w K lv n rs) : PW w ((w.alloc (.cells #[.int .i64 room, .int .i64 each, lv] 40)).alloc (.cells #[.int .i64 0, .int .i64 0, .slice none 0 0] 40)) room each K lv n rs := by
  have hk : KeepK (fun i => i < w.heap.size) w ((w.alloc (.cells #[.int .i64 room, .int .i64 each, lv] 40)).alloc (.cells #[.int .i64 0, .int .i64 0, .slice none 0 0] 40)) :=
    ((KeepK.refl (fun i => i < w.heap.size) w).alloc (fun i hi => hi) _).alloc (fun i hi => by have : i < w.heap.size := hi; simp; omega) _
  refine ⟨(Blk.new w _ _).alloc _, heap_alloc2_new _ _ _, ⟨h.len, h.s.keepK hk fun i hi => h.s.lt i hi, fun i hi => .inl ⟨h.own i hi, h.s.lt i hi⟩, fun q hq => ?_⟩, hk, by simp⟩
  have hq' := h.each q hq
  exact ⟨hq'.1.keepK hk fun i hi => hq'.1.lt i hi, fun i hi => .inl ⟨hq'.2 i hi, hq'.1.lt i hi⟩⟩
theorem PW.keep (h : PW w V room each K lv n rs) (hk : KeepK (fun i => i < V.heap.size) V V') : PW w V' room each K lv n rs := by
  have hs := h.s
  refine ⟨h.b.keepK hk h.b.lt, h.z.keepK hk h.z.lt, ⟨h.r.len, h.r.s.keepK hk fun i hi => h.r.s.lt i hi, h.r.own, fun q hq => ⟨(h.r.each q hq).1.keepK hk fun i hi => (h.r.each q hq).1.lt i hi, (h.r.each q hq).2⟩⟩, h.k.trans (hk.mono fun i hi => by have : i < w.heap.size := hi; show i < _; omega), Nat.le_trans hs hk.size⟩
theorem PW.below (h : PW w V room each K lv n rs) (hb : Below V.heap.size V V') : PW w V' room each K lv n rs := h.keep (KeepK.of_below hb fun _ hi => hi)
theorem PW.drew (h : PW w V room each K lv n rs) : PW w V.drew room each K lv n rs := h.keep (KeepK.drew (KeepK.refl _ _))
/-- A new slice is laid into the box. -/
theorem PW.lay {lv' : Value} {n' : Nat} {rs' : Rw} (h : PW w V room each K lv n rs) (hk : KeepK (fun i => i < w.heap.size + 2) V V') (hr : RQ V' (fun i => (K i ∧ i < w.heap.size) ∨ w.heap.size + 2 ≤ i) lv' n' rs') :
    PW w (V'.setCell ⟨w.heap.size, 2, none⟩ lv') room each K lv' n' rs' := by
  have hb := (h.b.keepK hk (by show w.heap.size < _; omega)).set_ 2 lv'
  have hks : KeepK (fun i => i ≠ w.heap.size) V' (V'.setCell ⟨w.heap.size, 2, none⟩ lv') := (KeepK.refl (fun i => i ≠ w.heap.size) V').setCell (p := ⟨w.heap.size, 2, none⟩) (fun i hi => hi) _
  refine ⟨by simpa using hb, (h.z.keepK hk (by show w.heap.size + 1 < _; omega)).far (p := ⟨w.heap.size, 2, none⟩) (by show w.heap.size + 1 ≠ w.heap.size; omega) _, ⟨hr.len, hr.s.keepK hks fun i hi => ?_, hr.own, fun q hq => ⟨(hr.each q hq).1.keepK hks fun i hi => ?_, (hr.each q hq).2⟩⟩,
    (h.k.trans (hk.mono fun i hi => by have : i < w.heap.size := hi; show i < _; omega)).trans (hks.mono fun i hi => by have : i < w.heap.size := hi; show i ≠ _; omega), Nat.le_trans h.s (Nat.le_trans hk.size hks.size)⟩
  · rcases hr.own i hi with h | h
    · exact Nat.ne_of_lt h.2
    · show i ≠ w.heap.size; omega
  · rcases (hr.each q hq).2 i hi with h | h
    · exact Nat.ne_of_lt h.2
    · show i ≠ w.heap.size; omega
/-- The end: the box is laid out as the result. -/
theorem PW.ends (h : PW w V room each K lv n rs) : Blk (((V.setCell ⟨w.heap.size + 1, 0, none⟩ (.int .i64 room)).setCell ⟨w.heap.size + 1, 1, none⟩ (.int .i64 each)).setCell ⟨w.heap.size + 1, 2, none⟩ lv) (w.heap.size + 1) 40 #[.int .i64 room, .int .i64 each, lv] ∧
    RQ (((V.setCell ⟨w.heap.size + 1, 0, none⟩ (.int .i64 room)).setCell ⟨w.heap.size + 1, 1, none⟩ (.int .i64 each)).setCell ⟨w.heap.size + 1, 2, none⟩ lv) (fun i => K i ∨ w.heap.size ≤ i) lv n rs ∧
    Below w.heap.size w (((V.setCell ⟨w.heap.size + 1, 0, none⟩ (.int .i64 room)).setCell ⟨w.heap.size + 1, 1, none⟩ (.int .i64 each)).setCell ⟨w.heap.size + 1, 2, none⟩ lv) := by
  have hks : KeepK (fun i => i ≠ w.heap.size + 1) V (((V.setCell ⟨w.heap.size + 1, 0, none⟩ (.int .i64 room)).setCell ⟨w.heap.size + 1, 1, none⟩ (.int .i64 each)).setCell ⟨w.heap.size + 1, 2, none⟩ lv) :=
    (((KeepK.refl (fun i => i ≠ w.heap.size + 1) V).setCell (p := ⟨w.heap.size + 1, 0, none⟩) (fun i hi => hi) _).setCell (p := ⟨w.heap.size + 1, 1, none⟩) (fun i hi => hi) _).setCell (p := ⟨w.heap.size + 1, 2, none⟩) (fun i hi => hi) _
  have hz := ((h.z.set_ 0 (.int .i64 room)).set_ 1 (.int .i64 each)).set_ 2 lv
  refine ⟨by simpa using hz, ⟨h.r.len, h.r.s.keepK hks fun i hi => ?_, fun i hi => ?_, fun q hq => ⟨(h.r.each q hq).1.keepK hks fun i hi => ?_, fun i hi => ?_⟩⟩, (h.k.trans (hks.mono fun i hi => by have : i < w.heap.size := hi; show i ≠ _; omega)).below fun i hi => hi⟩
  · rcases h.r.own i hi with h | h
    · have := h.2; show i ≠ w.heap.size + 1; omega
    · show i ≠ w.heap.size + 1; omega
  · rcases h.r.own i hi with h | h
    · exact .inl h.1
    · exact .inr (by omega)
  · rcases (h.r.each q hq).2 i hi with h | h
    · have := h.2; show i ≠ w.heap.size + 1; omega
    · show i ≠ w.heap.size + 1; omega
  · rcases (h.r.each q hq).2 i hi with h | h
    · exact .inl h.1
    · exact .inr (by omega)
end
theorem sl_one {w : World} {g : Nat} {t : TypeId} {u : Value} (h : Blk w g t #[u]) : Sl w 1 (.slice (some ⟨g, 0, none⟩) 1 1) 1 [u] := by
  refine ⟨rfl, .inr ⟨g, 1, rfl, h.lt, Nat.le_refl _, by unfold maxLen; decide, fun j hj => ?_, fun j x hx => ?_⟩⟩
  · have hj0 : j = 0 := by omega
    subst hj0
    exact ⟨by rw [h.cell 0]; rfl, h.frozen 0⟩
  · match j, hx with
    | 0, hx =>
      have : u = x := by simpa using hx
      subst this
      exact h.cell 0
    | j + 1, hx => simp at hx
theorem clOf_snoc (rs : Rw) (a : Int) (l : List Int) (v : Value) : clOf (rs ++ [((a, l), v)]) = clOf rs ++ [(a, l)] := by simp [clOf]
theorem keepP {V W : World} {a : Nat} {x0 x1 x2 : Option Value} (H : W.cell? ⟨a, 0, none⟩ = x0 ∧ W.cell? ⟨a, 1, none⟩ = x1 ∧ W.cell? ⟨a, 2, none⟩ = x2 ∧ Below V.heap.size V W) :
    W.drew.cell? ⟨a, 0, none⟩ = x0 ∧ W.drew.cell? ⟨a, 1, none⟩ = x1 ∧ W.drew.cell? ⟨a, 2, none⟩ = x2 ∧ Below V.heap.size V W.drew := ⟨H.1, H.2.1, H.2.2.1, H.2.2.2.drew⟩
theorem keepPC {V W w' : World} {a : Nat} {x0 x1 x2 : Option Value} (ha : a < V.heap.size) (H : W.cell? ⟨a, 0, none⟩ = x0 ∧ W.cell? ⟨a, 1, none⟩ = x1 ∧ W.cell? ⟨a, 2, none⟩ = x2 ∧ Below V.heap.size V W) (hw : Below W.heap.size W w') :
    w'.cell? ⟨a, 0, none⟩ = x0 ∧ w'.cell? ⟨a, 1, none⟩ = x1 ∧ w'.cell? ⟨a, 2, none⟩ = x2 ∧ Below V.heap.size V w' := by
  have h := H.2.2.2.size
  exact ⟨(hw.cell (p := ⟨a, 0, none⟩) (by show a < _; omega)).trans H.1, (hw.cell (p := ⟨a, 1, none⟩) (by show a < _; omega)).trans H.2.1, (hw.cell (p := ⟨a, 2, none⟩) (by show a < _; omega)).trans H.2.2.1, H.2.2.2.trans (hw.mono H.2.2.2.size)⟩
theorem flatR_set (s r : Rw) (a : Int) (l l' : List Int) (v v' : Value) : (flatR (s ++ ((a, l), v) :: r)).set (s.length * 2 + 1) v' = flatR (s ++ ((a, l'), v') :: r) := by
  rw [flatR_app, flatR_app, List.set_append_right _ _ (by rw [flatR_len]; omega), flatR_len, show s.length * 2 + 1 - s.length * 2 = 1 by omega]
  rfl
theorem addC_split {s r : Rw} {a id : Int} {l : List Int} {v v' : Value} (h : ∀ q ∈ s, q.1.1 ≠ a) : clOf (s ++ ((a, l ++ [id]), v') :: r) = addC (clOf (s ++ ((a, l), v) :: r)) a id := by
  induction s with
  | nil => simp [clOf, addC]
  | cons q t ih =>
    have h1 := h q (by simp)
    have h2 := ih fun x hx => h x (by simp [hx])
    unfold clOf at h2 ⊢
    rw [List.cons_append, List.map_cons, List.cons_append, List.map_cons]
    unfold addC
    rw [if_neg h1, ← h2]
/-- A row is turned in place. -/
theorem put_old {w W V W5 : World} {room each : Int} {K : Nat → Prop} {lv : Value} {n c3 g3 : Nat} {s r : Rw} {a id : Int} {l : List Int} {v v5 : Value} (hW : RQ W (fun i => (K i ∧ i < w.heap.size) ∨ w.heap.size + 2 ≤ i) lv n (s ++ ((a, l), v) :: r))
    (h : PW w V room each K (.slice (some ⟨g3, 0, none⟩) n c3) n (s ++ ((a, l), v) :: r)) (ho : W.heap.size ≤ g3 ∧ KeepK (fun i => i < W.heap.size ∧ i ≠ w.heap.size) W V) (hk : KeepK (fun i => i < V.heap.size) V W5)
    (hs5 : Sl W5 1 v5 (l.length + 1) ((l ++ [id]).map i64V)) (ho5 : ∀ i, v5.ownBlock = some i → V.heap.size ≤ i) (hWw : w.heap.size + 2 ≤ W.heap.size) :
    PW w (W5.setCell ⟨g3, s.length * 2 + 1, none⟩ v5) room each K (.slice (some ⟨g3, 0, none⟩) n c3) n (s ++ ((a, l ++ [id]), v5) :: r) := by
  have P5 := h.keep hk
  have hWV := ho.2.size
  have hg3 := h.r.s.lt g3 rfl
  have hlen := h.r.len
  rw [List.length_append, List.length_cons] at hlen
  have hks : KeepK (fun i => i ≠ g3) W5 (W5.setCell ⟨g3, s.length * 2 + 1, none⟩ v5) := (KeepK.refl (fun i => i ≠ g3) W5).setCell (p := ⟨g3, s.length * 2 + 1, none⟩) (fun i hi => hi) _
  have hkW : KeepK (fun i => i < W.heap.size ∧ i ≠ w.heap.size) W (W5.setCell ⟨g3, s.length * 2 + 1, none⟩ v5) :=
    (ho.2.trans (hk.mono fun i hi => by have := hi.1; show i < _; omega)).trans (hks.mono fun i hi => by have := hi.1; show i ≠ _; omega)
  have hset := P5.r.s.set_ (g := g3) rfl (s.length * 2 + 1) v5 (by omega)
  rw [flatR_set s r a l (l ++ [id]) v v5] at hset
  have old : ∀ q, q ∈ s ++ ((a, l), v) :: r → RC (W5.setCell ⟨g3, s.length * 2 + 1, none⟩ v5) (fun i => (K i ∧ i < w.heap.size) ∨ w.heap.size + 2 ≤ i) q.2 q.1.2 := fun q hq => by
    have h1 := hW.each q hq
    exact ⟨h1.1.keepK hkW fun i hi => ⟨h1.1.lt i hi, by rcases h1.2 i hi with h | h <;> omega⟩, h1.2⟩
  refine ⟨P5.b.far (p := ⟨g3, s.length * 2 + 1, none⟩) (by show w.heap.size ≠ g3; omega) _, P5.z.far (p := ⟨g3, s.length * 2 + 1, none⟩) (by show w.heap.size + 1 ≠ g3; omega) _,
    ⟨by rw [List.length_append, List.length_cons]; exact hlen, hset, h.r.own, fun q hq => ?_⟩, P5.k.trans (hks.mono fun i hi => by have : i < w.heap.size := hi; show i ≠ _; omega), Nat.le_trans P5.s hks.size⟩
  rcases List.mem_append.1 hq with hq | hq
  · exact old q (by simp [hq])
  · rcases List.mem_cons.1 hq with rfl | hq
    · refine ⟨?_, fun i hi => .inr (by have := ho5 i hi; omega)⟩
      dsimp only
      rw [List.length_append]
      exact hs5.keepK hks fun i hi => by have := ho5 i hi; show i ≠ g3; omega
    · exact old q (by simp [hq])
/-- What an append onto a slice of the call's own leaves. -/
theorem put_app {V U w4 : World} {A4 : Option Addr} {L c4 : Nat} {xs : List Value} {row : Option Nat} (hU : KeepK (fun i => i < V.heap.size) V U) (hs4 : Sl w4 1 (.slice A4 L c4) L xs) (hg4 : U.grownBy w4 row) (hrow : ∀ i, row = some i → V.heap.size ≤ i)
    (hv4 : (Value.slice A4 L c4).ownBlock = row ∨ (Value.slice A4 L c4).ownBlock = some U.heap.size) : KeepK (fun i => i < V.heap.size) V w4 ∧ Sl w4 1 (.slice A4 L c4) L xs ∧ ∀ i, (Value.slice A4 L c4).ownBlock = some i → V.heap.size ≤ i := by
  refine ⟨hU.grown hg4 (fun i hi => by have : i < V.heap.size := hi; have := hU.size; omega) (fun i hi e => by have := hrow i e.symm; have : i < V.heap.size := hi; omega), hs4, fun i hi => ?_⟩
  rcases hv4 with e | e
  · exact hrow i (e.symm.trans hi)
  · have : U.heap.size = i := Option.some.inj (e.symm.trans hi)
    have := hU.size; omega
theorem lastP {a b c d : Prop} (H : a ∧ b ∧ c ∧ d) : d := H.2.2.2
end Go.Proofs.Ytkdfbmbccopchaa
