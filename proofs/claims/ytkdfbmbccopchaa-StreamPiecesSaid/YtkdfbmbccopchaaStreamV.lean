/- The walk of stream's Feed. -/
import Derived.Test.YtkdfbmbccopchaaStreamW
import Derived.Laws.IdiomStrings
namespace Go.Proofs.Ytkdfbmbccopchaa
open Go.RowKit Go.Lib

theorem sl_bytes {V : World} {g cap : Nat} {s : ByteArray} {t : TypeId} (hV : V.heap[g]? = some (.cells (bytesRow s cap) t ((bytesRow s cap).size, (bytesRow s cap).size + 1))) (h1 : s.size ≤ cap) (h2 : cap ≤ maxLen) :
    Sl V 1 (.slice (some ⟨g, 0, none⟩) s.size cap) s.size (s.data.toList.map b8) := by
  have hsz : (bytesRow s cap).size = cap := by
    have : s.data.size = s.size := rfl
    simp [bytesRow]
    omega
  refine ⟨by simp, .inr ⟨g, cap, rfl, (Array.getElem?_eq_some_iff.1 hV).1, h1, h2, fun j hj => ⟨?_, ?_⟩, fun j u hu => ?_⟩⟩
  · rw [cell_of_row V g j _ _ _ hV, Array.getElem?_eq_getElem (by omega)]
    rfl
  · have : ¬ (bytesRow s cap).size ≤ j := by omega
    simp only [World.frozen?, hV]
    simp [this]
  · rw [cell_of_row V g j _ _ _ hV]
    have hj : j < s.data.size := by
      have := (List.getElem?_eq_some_iff.1 hu).1
      simpa using this
    rw [bytesRow_at s cap j hj, ← hu, List.getElem?_map, List.getElem?_eq_getElem (by simpa using hj)]
    rfl
theorem whole_pos {l : List UInt8} (h : wholeB l = true) : 0 < l.length := by
  match l, h with
  | a :: b :: t, _ => simp
/-- A stream at block b, in which the bytes l wait; what is named in K lies apart. -/
def SW (K : Nat → Prop) (b : Nat) (l : List UInt8) (W : World) : Prop :=
  (∀ i, K i → i < W.heap.size ∧ i ≠ b) ∧ ∃ A c, Blk W b 127 #[.slice A l.length c] ∧ Sl W 1 (.slice A l.length c) l.length (l.map b8) ∧ (∀ g, (Value.slice A l.length c).ownBlock = some g → g ≠ b ∧ ¬ K g)
theorem SW.next {K : Nat → Prop} {b : Nat} {l : List UInt8} {W W' : World} (h : SW K b l W) (hb : Below W.heap.size W W') : SW K b l W' := by
  obtain ⟨hK, A, c, h1, h2, h3⟩ := h
  exact ⟨fun i hi => ⟨Nat.lt_of_lt_of_le (hK i hi).1 hb.size, (hK i hi).2⟩, A, c, h1.below hb h1.lt, h2.below hb h2.lt, h3⟩
theorem SW.start (w : World) : SW (fun i => i < w.heap.size) w.heap.size [] (w.alloc (.cells #[.slice none 0 0] 127)) :=
  ⟨fun i hi => ⟨by simp; omega, by omega⟩, none, 0, Blk.new w _ _, Sl.nil _ _, fun g hg => by simp [Value.ownBlock] at hg⟩
theorem SW.mono {K K' : Nat → Prop} {b : Nat} {l : List UInt8} {W : World} (h : SW K b l W) (hk : ∀ i, K' i → K i) : SW K' b l W := by
  obtain ⟨hK, A, c, h1, h2, h3⟩ := h
  exact ⟨fun i hi => hK i (hk i hi), A, c, h1, h2, fun g hg => ⟨(h3 g hg).1, fun h => (h3 g hg).2 (hk g h)⟩⟩
/-- What is named may grow, and be named anew. -/
theorem SW.renew {K K' : Nat → Prop} {b : Nat} {l : List UInt8} {W W' : World} {row : Option Nat} (h : SW K b l W) (hg : W.grownBy W' row) (hr : ∀ i, row = some i → K i) (hk : ∀ i, K' i → (K i ∨ W.heap.size ≤ i) ∧ i < W'.heap.size) : SW K' b l W' := by
  obtain ⟨hK, A, c, h1, h2, h3⟩ := h
  refine ⟨fun i hi => ⟨(hk i hi).2, ?_⟩, A, c, h1.grown hg (fun e => (hK b (hr b e.symm)).2 rfl), h2.keep hg.size (fun g e => hg.block g (h2.lt g e) (fun e2 => (h3 g e).2 (hr g e2.symm))), fun g e => ⟨(h3 g e).1, fun h => ?_⟩⟩
  · rcases (hk i hi).1 with h | h
    · exact (hK i h).2
    · have := h1.lt; omega
  · rcases (hk g h).1 with h | h
    · exact (h3 g e).2 h
    · have := h2.lt g e; omega
/-- What is new may be named, too. -/
theorem SW.wide {K K' : Nat → Prop} {b : Nat} {l : List UInt8} {W W' : World} (h : SW K b l W) (hb : Below W.heap.size W W') (hk : ∀ i, K' i → (K i ∨ W.heap.size ≤ i) ∧ i < W'.heap.size) : SW K' b l W' := by
  obtain ⟨hK, A, c, h1, h2, h3⟩ := h
  refine ⟨fun i hi => ⟨(hk i hi).2, ?_⟩, A, c, h1.below hb h1.lt, h2.below hb h2.lt, fun g e => ⟨(h3 g e).1, fun h => ?_⟩⟩
  · rcases (hk i hi).1 with h | h
    · exact (hK i h).2
    · have := h1.lt; omega
  · rcases (hk g h).1 with h | h
    · exact (h3 g e).2 h
    · have := h2.lt g e; omega

set_option maxRecDepth 100000 in
theorem Feed_full (K : Nat → Prop) (b : Nat) (l : List UInt8) (s : ByteArray) (w : World) (h : SW K b l w) (hs : s.size ≤ maxLen) (hl : l.length ≤ 131072) (hf : 131072 < l.length + s.size) :
    Calls Try.prog 46 #[.pointer (some ⟨b, 0, none⟩), .string s] w fun e w' => e = .returned (.tuple #[.slice none 0 0, .int .i64 8]) ∧ w = w' := by
  obtain ⟨_, A, c, h1, _, _⟩ := h
  have c0 := h1.cell 0
  unfold maxLen at hs
  have e1 : (131072 : Int) - (l.length : Int) < (s.size : Int) := by omega
  have e2 : (s.size : Int) ≤ 9223372036854775807 := by omega
  have e3 : (l.length : Int) ≤ 131072 := by omega
  clear h1 hs hf hl
  go_enter Try.func46, Try.ntmps46
  go_wp2_with (fail)
  go_ret2
  exact ⟨rfl, rfl⟩

set_option maxRecDepth 100000 in
set_option maxHeartbeats 4000000 in
theorem Feed_fits (K : Nat → Prop) (b : Nat) (l : List UInt8) (s : ByteArray) (w : World) (h : SW K b l w) (hf : l.length + s.size ≤ 131072) :
    Calls Try.prog 46 #[.pointer (some ⟨b, 0, none⟩), .string s] w fun e w' => ∃ A c, e = .returned (.tuple #[.slice A (mss (l ++ s.data.toList)).1.length c, .int .i64 0]) ∧
      Sl w' 1 (.slice A (mss (l ++ s.data.toList)).1.length c) (mss (l ++ s.data.toList)).1.length (txtV (mss (l ++ s.data.toList)).1) ∧ SW K b (mss (l ++ s.data.toList)).2 w' ∧ KeepK K w w' := by
  obtain ⟨L, hL⟩ : ∃ L, l ++ s.data.toList = L := ⟨_, rfl⟩
  have hLl : l.length + s.size = L.length := by rw [← hL, List.length_append]; simp
  rw [hL]
  have HLL := Lib.hid (And.intro hLl hL)
  clear hLl hL
  obtain ⟨i, hi, hz0, hz1, hz2⟩ : ∃ i, Try.prog.info? 5 = some i ∧ i.zero = some (.int .u8 0) ∧ i.size = 1 ∧ i.bytes = 1 := by
    have h : (Try.prog.info? 5).map (fun i => (i.zero, i.size, i.bytes)) = some (some (.int .u8 0), 1, 1) := by kernel_rfl
    cases hi : Try.prog.info? 5 with
    | none => rw [hi] at h; cases h
    | some i =>
      rw [hi] at h
      simp only [Option.map_some, Option.some.injEq, Prod.mk.injEq] at h
      exact ⟨i, rfl, h.1, h.2.1, h.2.2⟩
  obtain ⟨h4, A, c, h1, h2, h3⟩ := h
  have c0 := h1.cell 0
  have f0 := h1.frozen 0
  have e1 : ¬ (131072 : Int) - (l.length : Int) < (s.size : Int) := by omega
  have e2 : (s.size : Int) ≤ 131072 := by omega
  have e3 : (l.length : Int) ≤ 131072 := by omega
  have HH := Lib.hid (And.intro h1 (And.intro h2 (And.intro h3 h4)))
  clear h1 h2 h3 h4
  go_enter Try.func46, Try.ntmps46
  go_wp2_with (at_builtin; go_must (refine wpList_append_sl _ rfl (.tmp 25) (.tmp 26) 87 9 rfl 5 i (.int .u8 0) 1 1 Try.underlying87 hi hz0 hz1 hz2 rfl (.slice A l.length c) l.length (l.map b8) rfl HH.out.2.1 (.string s) rfl s.size (byteCells s) (Src.ofString _ Try.underlying9 s) (by unfold maxLen; omega) (by omega) ?_); intro v1 w1 hs1 hg1 hv1; obtain ⟨A1, c1, rfl, hc1, hm1⟩ := hs1.shape; have hx := HH.out; have k1 : Blk w1 b 127 #[.slice A l.length c] := hx.1.grown hg1 (fun e => (hx.2.2.1 b e.symm).1 rfl); have g0 := k1.cell 0; have p0 := k1.frozen 0; have H1 := Lib.hid (And.intro hs1 (And.intro hg1 (And.intro hv1 k1))); clear hs1 hg1 hv1 k1 hx hc1 hm1)
  obtain ⟨hLl, hL⟩ := HLL.out
  rw [hLl]
  obtain ⟨W2, hW2⟩ : ∃ W2, w1.setCell ⟨b, 0, none⟩ (.slice A1 L.length c1) = W2 := ⟨_, rfl⟩
  have hb0 : b < w.heap.size := HH.out.1.lt
  have hown : ∀ g, (Value.slice A1 (l.length + s.size) c1).ownBlock = some g → g ≠ b ∧ ¬ K g := by
    intro g hg
    rcases H1.out.2.2.1 with e | e
    · exact HH.out.2.2.1 g (e.symm.trans hg)
    · rw [hg] at e
      have := Option.some.inj e
      exact ⟨by omega, fun hk => by have := (HH.out.2.2.2 g hk).1; omega⟩
  have k2 : Blk W2 b 127 #[.slice A1 L.length c1] := by rw [← hW2]; exact H1.out.2.2.2.set_ 0 _
  have sl2 : Sl W2 1 (.slice A1 L.length c1) L.length (L.map b8) := by
    have h := H1.out.1
    rw [byteCells_b8, ← List.map_append, hL] at h
    rw [hLl] at h hown
    rw [← hW2]
    exact h.far (p := ⟨b, 0, none⟩) (fun g hg => (hown g hg).1) _
  have hbW : KeepK K w W2 := by
    rw [← hW2]
    exact ((KeepK.refl K w).grown H1.out.2.1 (fun i hi => (HH.out.2.2.2 i hi).1) (fun i hi e => (HH.out.2.2.1 i e.symm).2 hi)).setCell (p := ⟨b, 0, none⟩) (fun i hi => (HH.out.2.2.2 i hi).2) _
  have hKW : ∀ i, K i → i < W2.heap.size ∧ i ≠ b := fun i hi => ⟨Nat.lt_of_lt_of_le (HH.out.2.2.2 i hi).1 hbW.size, (HH.out.2.2.2 i hi).2⟩
  rw [hLl] at hown
  rw [hW2]
  have hL6 : L.length ≤ 1000000 := by omega
  have hLs : ∀ y ∈ (mss L).1, y.length < 65536 := mss_ok L
  have HW := Lib.hid (whole_any A1 c1 L W2 sl2 hL6)
  have H2 := Lib.hid (And.intro k2 (And.intro sl2 (And.intro hown (And.intro hbW (And.intro hL6 hKW)))))
  have hbW2 : b < W2.heap.size := k2.lt
  clear hW2 k2 sl2 hown hbW hKW hLl hL hLs c0 f0
  cases hwh : wholeB L with
  | false =>
    have hms := mss_none (whole_end hwh)
    rw [hwh] at HW
    with_reducible refine HW.out.mono ?_
    rintro e w3 ⟨rfl, m, hm⟩
    have HM := Lib.hid hm
    have HMS := Lib.hid hms
    clear hm hms hwh g0 p0 hbW2 hb0 hL6 HW
    go_wp2_with (fail)
    go_ret2
    obtain ⟨k2, sl2, hown, hbW, _, hKW⟩ := H2.out
    rw [HMS.out, HM.out]
    dsimp only [List.length_nil]
    have hb5 : KeepK K w (W2.drewN m) := hbW.drewN m
    have hs5 : SW K b L (W2.drewN m) := ⟨hKW, A1, c1, k2.drewN m, sl2.drewN m, hown⟩
    have hn5 : Sl (W2.drewN m) 1 (.slice none 0 0) 0 (txtV []) := Sl.nil _ _
    refine ⟨none, 0, ?_, hn5, hs5, hb5⟩
    simp
  | true =>
    rw [hwh] at HW
    have hpos := whole_pos hwh
    with_reducible refine HW.out.mono ?_
    rintro e w3 ⟨rfl, m, rfl⟩
    obtain ⟨V, hV⟩ : ∃ V, W2.drewN m = V := ⟨_, rfl⟩
    obtain ⟨k2, sl2, hown, hbW, _, hKW⟩ := H2.out
    have k3 : Blk V b 127 #[.slice A1 L.length c1] := by rw [← hV]; exact k2.drewN _
    have sl3 : Sl V 1 (.slice A1 L.length c1) L.length (L.map b8) := by rw [← hV]; exact sl2.drewN _
    have hb3 : KeepK K w V := by rw [← hV]; exact hbW.drewN _
    have hK3 : ∀ i, K i → i < V.heap.size ∧ i ≠ b := by rw [← hV]; exact hKW
    rw [hV]
    obtain ⟨g, cap, hvv, _, _, _, hcells⟩ := sl3.form hpos
    injection hvv with hA1 _ hcc
    subst hA1 hcc
    have hcv : (convert 87 9 (.slice (some ⟨g, 0, none⟩) L.length c1)).run Try.prog V = .ok (.string ⟨L.toArray⟩) V :=
      run_convert_bytes_back V _ _ 5 ⟨g, 0, none⟩ c1 L Try.underlying87 Try.underlying5 Try.underlying9 (fun j hj => by
        have : (⟨g, 0, none⟩ : Addr).add j = ⟨g, j, none⟩ := by unfold Addr.add; split <;> simp_all
        rw [this]
        exact hcells j _ (by rw [List.getElem?_map, List.getElem?_eq_getElem hj]; rfl))
    have HS := Lib.hid (fun W => Split_any ⟨L.toArray⟩ (by show L.toArray.size ≤ _; rw [List.size_toArray]; exact hL6) W)
    have c0 := k3.cell 0
    have HV := Lib.hid (And.intro k3 (And.intro hb3 (And.intro hown hK3)))
    have hbV := k3.lt
    have HW5 := Lib.hid hL6
    clear hV k2 sl2 hown hbW hKW hK3 k3 sl3 hb3 hcells g0 p0 hbW2 hb0 hL6 HW hwh hpos
    have hcv2 := fun W : World => run_bytes_of_string (P := Try.prog) W _ _ _ ⟨((mss L).2).toArray⟩ Try.underlying9 Try.underlying87 Try.underlying5
    go_wp2_with (fail)
    refine (HS.out _).mono ?_
    rintro e w4 ⟨A2, c2, rfl, hs4, ho4, hb4⟩
    have k4 : Blk w4 b 127 #[.slice (some ⟨g, 0, none⟩) L.length c1] := HV.out.1.below hb4 HV.out.1.lt
    have q0 := k4.cell 0
    have r0 := k4.frozen 0
    have hb5 := k4.lt
    have H4 := Lib.hid (And.intro hs4 (And.intro hb4 (And.intro k4 ho4)))
    clear hs4 ho4 hb4 k4 c0 hcv
    go_wp2_with (fail)

    go_ret2
    obtain ⟨hs4, hb4, k4, ho4⟩ := H4.out
    obtain ⟨k3, hb3, hown, hK3⟩ := HV.out
    have hlen2 : (mss L).2.length ≤ 1000000 := by
      have h := congrArg List.length (mss_enc L)
      rw [List.length_append] at h
      have := HW5.out
      omega
    have hcap1 := grownCap_ge w4 (mss L).2.length 0 5
    have hcap2 := grownCap_le_maxLen w4 (mss L).2.length 0 5 (by unfold maxLen; omega)
    generalize grownCap w4 (mss L).2.length 0 5 = cap at hcap1 hcap2 ⊢
    have hVb : b < V.heap.size := k3.lt
    have hb4s := hb4.size
    have hwV := hb3.size
    have hb34 : KeepK K w w4 := hb3.trans (KeepK.of_below hb4 (fun i hi => (hK3 i hi).1))
    have hb6 := hb34.setCell (p := ⟨b, 0, none⟩) (fun i hi => (hK3 i hi).2) (.slice (some ⟨w4.heap.size, 0, none⟩) (mss L).2.length cap)
    have k6 := k4.set_ 0 (.slice (some ⟨w4.heap.size, 0, none⟩) (mss L).2.length cap)
    have s6 := hs4.far (p := ⟨b, 0, none⟩) (fun q hq => by have := ho4 q hq; show q ≠ b; omega) (.slice (some ⟨w4.heap.size, 0, none⟩) (mss L).2.length cap)
    have hsz6 : (w4.setCell ⟨b, 0, none⟩ (.slice (some ⟨w4.heap.size, 0, none⟩) (mss L).2.length cap)).heap.size = w4.heap.size := by simp [World.setCell]
    generalize w4.setCell ⟨b, 0, none⟩ (.slice (some ⟨w4.heap.size, 0, none⟩) (mss L).2.length cap) = W6 at hb6 k6 s6 hsz6 ⊢
    have hn := heap_alloc_new W6 (.cells (bytesRow ⟨((mss L).2).toArray⟩ cap) 5 ((bytesRow ⟨((mss L).2).toArray⟩ cap).size, (bytesRow ⟨((mss L).2).toArray⟩ cap).size + 1))
    rw [hsz6] at hn
    have hrow := sl_bytes (s := ⟨((mss L).2).toArray⟩) hn (by simpa [ByteArray.size] using hcap1) hcap2
    have hbs := k4.lt
    refine ⟨A2, c2, by simp, (s6.alloc _).drew, ⟨fun i hi => ⟨by have := (hK3 i hi).1; simp; omega, (hK3 i hi).2⟩, some ⟨w4.heap.size, 0, none⟩, cap, (k6.alloc _).drew, ?_, fun q hq => ?_⟩, (hb6.alloc (fun i hi => by have := (hK3 i hi).1; omega) _).drew⟩
    · have : (⟨((mss L).2).toArray⟩ : ByteArray).size = (mss L).2.length := by simp [ByteArray.size]
      rw [this] at hrow
      exact hrow.drew
    · have : q = w4.heap.size := by simpa [Value.ownBlock] using hq.symm
      exact ⟨by omega, fun hk => by have := (hK3 q hk).1; omega⟩
end Go.Proofs.Ytkdfbmbccopchaa
