/- The walk of edns.Get, where it comes to no options. Conditions: none. -/
import Derived.Test.YthjkdpphbipgfaaEdPut
namespace Go.Proofs.Ythjkdpphbipgfaa
open Go.RowKit Go.Shelf Go.Lib

theorem results_cell_cell {fn : Func} {p q : Tmp} {ty tz : TypeId} (h : fn.results = #[.cell p ty, .cell q tz]) (tmps : Array Value) (P : Program) (w : World) :
    (results fn tmps).run P w =
      ((asAddr (tmps.getD p undef)).run P w).andThen fun a w₁ => ((loadVar ty a).run P w₁).andThen fun v w₂ => ((asAddr (tmps.getD q undef)).run P w₂).andThen fun b w₃ => ((loadVar tz b).run P w₃).andThen fun u w₄ => .ok (.tuple #[v, u]) w₄ := by
  simp only [results, h]
  simp [Sem.run_bind, Result.andThen]
theorem res_cell_cellE {P : Program} {fn : Func} {p q : Tmp} {ty tz : TypeId} (h : fn.results = #[.cell p ty, .cell q tz]) (tmps : Array Value) (w : World) (g : Nat) (t : TypeId) (cs : Array Value) (d : TypeDesc) (a : Addr) (u : Value)
    (hp : tmps.getD p undef = .pointer (some ⟨g, 0, none⟩)) (hg : Blk w g t cs) (hu : P.underlying ty = some d) (hd : (match d with | .struct _ | .array _ _ => true | _ => false) = true) (hi : (P.info? ty).map (·.size) = some cs.size)
    (hq : tmps.getD q undef = .pointer (some a)) (hl : (loadVar tz a).run P w = .ok u w) :
    (results fn tmps).run P w = .ok (.tuple #[.agg cs, u]) w := by
  rw [results_cell_cell h, hp, hq]
  simp [asAddr, Result.andThen, run_loadVar_row w g t ty cs _ d hg hu hd hi, hl]
theorem agg_edns : (Try.prog.info? 45).map (·.size) = some 6 := by kernel_rfl
theorem load_errno (w : World) (a : Addr) (v : Value) (h : w.cell? a = some v) : (loadVar 47 a).run Try.prog w = .ok v w := by
  simp [loadVar, go_sem, h, Try.isAgg47, Try.sizeOf47]
theorem Blk.edns {w : World} {g : Nat} {u0 u1 u2 u3 u4 u5 : Value} (h : Blk w g 45 #[u0, u1, u2, u3, u4, u5]) (v0 v1 v2 v3 v4 v5 : Value) :
    Blk ((((((w.setCell ⟨g, 0, none⟩ v0).setCell ⟨g, 1, none⟩ v1).setCell ⟨g, 2, none⟩ v2).setCell ⟨g, 3, none⟩ v3).setCell ⟨g, 4, none⟩ v4).setCell ⟨g, 5, none⟩ v5) g 45 #[v0, v1, v2, v3, v4, v5] := by
  have h := (((((h.set_ 0 v0).set_ 1 v1).set_ 2 v2).set_ 3 v3).set_ 4 v4).set_ 5 v5
  simpa using h

/-- What is laid ahead: the message's box, the two results, the wanted type. -/
structure GetV (m : MRec) (w V : World) : Prop where
  b : Below w.heap.size w V
  m0 : Blk V w.heap.size 26 #[.int .u16 m.id, .int .u16 m.bi, .slice m.qA m.q.length m.qc, .slice m.sA m.s.length m.sc, .slice m.hA m.h.length m.hc, .slice m.eA m.e.length m.ec]
  r0 : Blk V (w.heap.size + 1) 45 #[.bool false, .int .u16 0, .int .u8 0, .int .u8 0, .int .u16 0, .slice none 0 0]
  r1 : Blk V (w.heap.size + 1 + 1) 47 #[.int .i64 0]
  sz : w.heap.size + 3 ≤ V.heap.size
theorem GetV.below {m : MRec} {w V W : World} (h : GetV m w V) (hb : Below V.heap.size V W) : GetV m w W :=
  ⟨h.b.trans (hb.mono h.b.size), h.m0.belowS hb, h.r0.belowS hb, h.r1.belowS hb, Nat.le_trans h.sz hb.size⟩
theorem getV_new (m : MRec) (w : World) : GetV m w (((w.alloc (.cells #[.int .u16 m.id, .int .u16 m.bi, .slice m.qA m.q.length m.qc, .slice m.sA m.s.length m.sc, .slice m.hA m.h.length m.hc, .slice m.eA m.e.length m.ec] 26)).alloc (.cells #[.bool false, .int .u16 0, .int .u8 0, .int .u8 0, .int .u16 0, .slice none 0 0] 45)).alloc (.cells #[.int .i64 0] 47)) := by
  refine ⟨(((Below.refl _ _).alloc (Nat.le_refl _) _).alloc (by simp) _).alloc (by simp; omega) _, ((Blk.new _ _ _).alloc _).alloc _, ?_, ?_, by simp⟩
  · have h1 := (Blk.new (w.alloc (.cells #[.int .u16 m.id, .int .u16 m.bi, .slice m.qA m.q.length m.qc, .slice m.sA m.s.length m.sc, .slice m.hA m.h.length m.hc, .slice m.eA m.e.length m.ec] 26)) 45 #[.bool false, .int .u16 0, .int .u8 0, .int .u8 0, .int .u16 0, .slice none 0 0]).alloc (.cells #[.int .i64 0] 47)
    rw [World.size_alloc] at h1
    exact h1
  · have h1 := Blk.new ((w.alloc (.cells #[.int .u16 m.id, .int .u16 m.bi, .slice m.qA m.q.length m.qc, .slice m.sA m.s.length m.sc, .slice m.hA m.h.length m.hc, .slice m.eA m.e.length m.ec] 26)).alloc (.cells #[.bool false, .int .u16 0, .int .u8 0, .int .u8 0, .int .u16 0, .slice none 0 0] 45)) 47 #[.int .i64 0]
    rw [World.size_alloc, World.size_alloc] at h1
    exact h1
/-- The results, written. -/
theorem GetV.done {m : MRec} {w V : World} (h : GetV m w V) (v0 v1 v2 v3 v4 v5 u : Value) :
    Blk (((((((V.setCell ⟨w.heap.size + 1, 0, none⟩ v0).setCell ⟨w.heap.size + 1, 1, none⟩ v1).setCell ⟨w.heap.size + 1, 2, none⟩ v2).setCell ⟨w.heap.size + 1, 3, none⟩ v3).setCell ⟨w.heap.size + 1, 4, none⟩ v4).setCell ⟨w.heap.size + 1, 5, none⟩ v5).setCell ⟨w.heap.size + 1 + 1, 0, none⟩ u) (w.heap.size + 1) 45 #[v0, v1, v2, v3, v4, v5] ∧
    Blk (((((((V.setCell ⟨w.heap.size + 1, 0, none⟩ v0).setCell ⟨w.heap.size + 1, 1, none⟩ v1).setCell ⟨w.heap.size + 1, 2, none⟩ v2).setCell ⟨w.heap.size + 1, 3, none⟩ v3).setCell ⟨w.heap.size + 1, 4, none⟩ v4).setCell ⟨w.heap.size + 1, 5, none⟩ v5).setCell ⟨w.heap.size + 1 + 1, 0, none⟩ u) (w.heap.size + 1 + 1) 47 #[u] ∧
    KeepK (fun i => i ≠ w.heap.size + 1 ∧ i ≠ w.heap.size + 1 + 1) V (((((((V.setCell ⟨w.heap.size + 1, 0, none⟩ v0).setCell ⟨w.heap.size + 1, 1, none⟩ v1).setCell ⟨w.heap.size + 1, 2, none⟩ v2).setCell ⟨w.heap.size + 1, 3, none⟩ v3).setCell ⟨w.heap.size + 1, 4, none⟩ v4).setCell ⟨w.heap.size + 1, 5, none⟩ v5).setCell ⟨w.heap.size + 1 + 1, 0, none⟩ u) := by
  have k := keep_msg (K := fun i => i ≠ w.heap.size + 1 ∧ i ≠ w.heap.size + 1 + 1) V (g := w.heap.size + 1) (fun i hi => hi.1) v0 v1 v2 v3 v4 v5
  have k2 := keep_msg (K := fun i => i ≠ w.heap.size + 1) V (g := w.heap.size + 1) (fun i hi => hi) v0 v1 v2 v3 v4 v5
  refine ⟨(h.r0.edns v0 v1 v2 v3 v4 v5).far (by show w.heap.size + 1 ≠ w.heap.size + 1 + 1; omega) u, ?_, k.setCell (p := ⟨w.heap.size + 1 + 1, 0, none⟩) (fun i hi => hi.2) u⟩
  have hb := (h.r1.keepK k2 (by omega)).set_ 0 u
  simpa using hb

theorem GetV.cells {m : MRec} {w V : World} (h : GetV m w V) : (V.cell? ⟨w.heap.size + 1, 0, none⟩ = some (.bool false) ∧ V.cell? ⟨w.heap.size + 1, 1, none⟩ = some (.int .u16 0) ∧ V.cell? ⟨w.heap.size + 1, 2, none⟩ = some (.int .u8 0) ∧ V.cell? ⟨w.heap.size + 1, 3, none⟩ = some (.int .u8 0) ∧ V.cell? ⟨w.heap.size + 1, 4, none⟩ = some (.int .u16 0) ∧ V.cell? ⟨w.heap.size + 1, 5, none⟩ = some (.slice none 0 0) ∧ V.cell? ⟨w.heap.size + 1 + 1, 0, none⟩ = some (.int .i64 0)) ∧
    V.frozen? ⟨w.heap.size + 1, 0, none⟩ = false ∧ V.frozen? ⟨w.heap.size + 1, 1, none⟩ = false ∧ V.frozen? ⟨w.heap.size + 1, 2, none⟩ = false ∧ V.frozen? ⟨w.heap.size + 1, 3, none⟩ = false ∧ V.frozen? ⟨w.heap.size + 1, 4, none⟩ = false ∧ V.frozen? ⟨w.heap.size + 1, 5, none⟩ = false ∧ V.frozen? ⟨w.heap.size + 1 + 1, 0, none⟩ = false :=
  ⟨⟨h.r0.cell 0, h.r0.cell 1, h.r0.cell 2, h.r0.cell 3, h.r0.cell 4, h.r0.cell 5, h.r1.cell 0⟩, h.r0.frozen 0, h.r0.frozen 1, h.r0.frozen 2, h.r0.frozen 3, h.r0.frozen 4, h.r0.frozen 5, h.r1.frozen 0⟩
def ednsZ : Value := .agg #[.bool false, .int .u16 0, .int .u8 0, .int .u8 0, .int .u16 0, .slice none 0 0]
/-- Where Get comes to no options: what it says. -/
def GetSays (m : MRec) (c : Int) : Prop :=
  (m.s.any (RRec.is 41) = true ∧ c = 2) ∨ (m.s.any (RRec.is 41) = false ∧ m.h.any (RRec.is 41) = true ∧ c = 2) ∨ (m.s.any (RRec.is 41) = false ∧ m.h.any (RRec.is 41) = false ∧ idxP (RRec.is 41) m.e = -1 ∧ c = 0) ∨
  (m.s.any (RRec.is 41) = false ∧ m.h.any (RRec.is 41) = false ∧ ∃ k : Nat, k < m.e.length ∧ idxP (RRec.is 41) m.e = k ∧ (m.e.drop (k + 1)).any (RRec.is 41) = true ∧ c = 4)
/-- The rest of a list, as it lies. -/
theorem rtab_drop {w : World} {b off : Nat} {xs : List RRec} (h : RTab w (some ⟨b, off, none⟩) xs) (k : Nat) : RTab w (some ⟨b, off + k * 5, none⟩) (xs.drop k) := by
  intro hn
  obtain ⟨b', off', hA, hlt, hc⟩ := h (by rw [List.length_drop] at hn; omega)
  injection hA with hA
  injection hA with h1 h2 _
  subst h1 h2
  refine ⟨b, off + k * 5, rfl, hlt, fun j e he i v hv => ?_⟩
  rw [List.getElem?_drop] at he
  have := hc (k + j) e he i v hv
  rw [show off + k * 5 + j * 5 + i = off + (k + j) * 5 + i by omega]
  exact this

set_option maxRecDepth 100000 in
set_option maxHeartbeats 4000000 in
theorem get_early (m : MRec) (c : Int) (w : World) (hm : m.In w) (hl : m.s.length ≤ 4000 ∧ m.h.length ≤ 4000 ∧ m.e.length ≤ 4010 ∧ m.e.length ≤ m.ec ∧ m.ec ≤ maxLen) (h : GetSays m c) :
    Calls Try.prog 27 #[m.val] w fun e w' => e = .returned (.tuple #[ednsZ, .int .i64 c]) ∧ Below w.heap.size w w' := by
  have HM := Lib.hid (And.intro hm hl)
  clear hm hl
  dsimp only [MRec.val]
  have hV0 := getV_new m w
  go_enter Try.func27, Try.ntmps27
  go_wp2_with (fail)
  generalize ((w.alloc (.cells #[.int .u16 m.id, .int .u16 m.bi, .slice m.qA m.q.length m.qc, .slice m.sA m.s.length m.sc, .slice m.hA m.h.length m.hc, .slice m.eA m.e.length m.ec] 26)).alloc (.cells #[.bool false, .int .u16 0, .int .u8 0, .int .u8 0, .int .u16 0, .slice none 0 0] 45)).alloc (.cells #[.int .i64 0] 47) = V at hV0 ⊢
  with_reducible refine (typed_any 41 _).mono ?_
  rintro e w1 ⟨rfl, rfl⟩
  have hV1 := hV0.below (below_allocE V (.cells #[.int .u16 41] 27))
  have hc := cell_newE V (.int .u16 41) 27
  have hBl := ltA1 V (.cells #[.int .u16 41] 27)
  generalize V.alloc (.cells #[.int .u16 41] 27) = U at hV1 hc hBl ⊢
  obtain ⟨B, hB⟩ : ∃ B, V.heap.size = B := ⟨_, rfl⟩
  rw [hB] at hc hBl ⊢
  have hsz := hV1.sz
  have m3 := hV1.m0.cell 3
  have HC := Lib.hid (fun (xs : List RRec) (A : Option Addr) (k : Nat) (W : World) (hW : Below U.heap.size U W) (hT : RTab W A xs) (hx : xs.length ≤ 1000000) => containsR_any xs A k 41 B W hT (Nat.lt_of_lt_of_le hBl hW.size) ((hW.cell (p := ⟨B, 0, none⟩) hBl).trans hc) hx)
  have HI := Lib.hid (fun (xs : List RRec) (A : Option Addr) (k : Nat) (W : World) (hW : Below U.heap.size U W) (hT : RTab W A xs) (hx : xs.length ≤ 1000000) => indexR_any xs A k 41 B W hT (Nat.lt_of_lt_of_le hBl hW.size) ((hW.cell (p := ⟨B, 0, none⟩) hBl).trans hc) (by omega))
  have HS := Lib.hid (HC.out m.s m.sA m.sc U (Below.refl _ _) (HM.out.1.below hV1.b).ts (by have := HM.out.2.1; omega))
  have HV := Lib.hid hV1
  clear hV0 hV1 hc
  obtain ⟨b, hb⟩ : ∃ b, m.s.any (RRec.is 41) = b := ⟨_, rfl⟩
  rw [hb] at HS
  have HB1 := Lib.hid hb
  clear hb
  cases b with
  | true =>
    obtain rfl : c = 2 := by
      have h1 := HB1.out
      rcases h with ⟨_, h⟩ | ⟨_, _, h⟩ | ⟨h, _⟩ | ⟨h, _⟩
      · exact h
      · exact h
      · rw [h1] at h; cases h
      · rw [h1] at h; cases h
    clear h
    go_wp2_with (fail)
    with_reducible refine HS.out.mono ?_
    rintro e w2 ⟨rfl, hb⟩
    have hV2 := HV.out.below hb
    obtain ⟨⟨r0, r1, r2, r3, r4, r5, r6⟩, f0, f1, f2, f3, f4, f5, f6⟩ := hV2.cells
    have HV2 := Lib.hid hV2
    clear hV2 hb
    go_wp2_with (fail)
    have hd := HV2.out.done (.bool false) (.int .u16 0) (.int .u8 0) (.int .u8 0) (.int .u16 0) (.slice none 0 0) (.int .i64 2)
    refine bodyPost_ret (res_cell_cellE rfl _ _ (w.heap.size + 1) 45 _ _ ⟨w.heap.size + 1 + 1, 0, none⟩ (.int .i64 2) rfl hd.1 Try.underlying45 rfl agg_edns rfl (load_errno _ _ _ (hd.2.1.cell 0))) rfl ⟨rfl, ?_⟩
    exact ((KeepK.of_below (K := fun i => i < w.heap.size) HV2.out.b fun i hi => hi).trans (hd.2.2.mono fun i hi => by omega)).below fun i hi => hi
  | false =>
    go_wp2_with (fail)
    with_reducible refine HS.out.mono ?_
    rintro e w2 ⟨rfl, hb2⟩
    have hV2 := HV.out.below hb2
    have m4 := hV2.m0.cell 4
    have hsz2 := hV2.sz
    have HH := Lib.hid (HC.out m.h m.hA m.hc w2 hb2 (HM.out.1.below hV2.b).th (by have := HM.out.2.2.1; omega))
    have HV2 := Lib.hid (And.intro hV2 hb2)
    clear hV2 hb2 m3
    obtain ⟨b, hb⟩ : ∃ b, m.h.any (RRec.is 41) = b := ⟨_, rfl⟩
    rw [hb] at HH
    have HB2 := Lib.hid hb
    clear hb
    cases b with
    | true =>
      obtain rfl : c = 2 := by
        have h1 := HB1.out
        have h2 := HB2.out
        rcases h with ⟨h, _⟩ | ⟨_, _, h⟩ | ⟨_, h, _⟩ | ⟨_, h, _⟩
        · rw [h1] at h; cases h
        · exact h
        · rw [h2] at h; cases h
        · rw [h2] at h; cases h
      clear h
      go_wp2_with (fail)
      with_reducible refine HH.out.mono ?_
      rintro e w3 ⟨rfl, hb3⟩
      have hV3 := HV2.out.1.below hb3
      clear HV2
      obtain ⟨⟨r0, r1, r2, r3, r4, r5, r6⟩, f0, f1, f2, f3, f4, f5, f6⟩ := hV3.cells
      have HV2 := Lib.hid hV3
      clear hV3
      go_wp2_with (fail)
      have hd := HV2.out.done (.bool false) (.int .u16 0) (.int .u8 0) (.int .u8 0) (.int .u16 0) (.slice none 0 0) (.int .i64 2)
      refine bodyPost_ret (res_cell_cellE rfl _ _ (w.heap.size + 1) 45 _ _ ⟨w.heap.size + 1 + 1, 0, none⟩ (.int .i64 2) rfl hd.1 Try.underlying45 rfl agg_edns rfl (load_errno _ _ _ (hd.2.1.cell 0))) rfl ⟨rfl, ?_⟩
      exact ((KeepK.of_below (K := fun i => i < w.heap.size) HV2.out.b fun i hi => hi).trans (hd.2.2.mono fun i hi => by omega)).below fun i hi => hi
    | false =>
      go_wp2_with (fail)
      with_reducible refine HH.out.mono ?_
      rintro e w3 ⟨rfl, hb3⟩
      have hV3 := HV2.out.1.below hb3
      have m5 := hV3.m0.cell 5
      have hsz3 := hV3.sz
      have HE := Lib.hid (HI.out m.e m.eA m.ec w3 (belowT HV2.out.2 hb3) (HM.out.1.below hV3.b).te (by have := HM.out.2.2.2.1; omega))
      have HV3 := Lib.hid (And.intro hV3 (belowT HV2.out.2 hb3))
      clear hV3 hb3 m4
      rcases h with ⟨h, _⟩ | ⟨_, h, _⟩ | ⟨_, _, hix, rfl⟩ | ⟨_, _, k, hk, hix, hany, rfl⟩
      · exact absurd (HB1.out.symm.trans h) (by simp)
      · exact absurd (HB2.out.symm.trans h) (by simp)
      · rw [hix] at HE
        clear hix
        go_wp2_with (fail)
        with_reducible refine HE.out.mono ?_
        rintro e w4 ⟨rfl, hb4⟩
        have hV4 := HV3.out.1.below hb4
        clear HV2
        obtain ⟨⟨r0, r1, r2, r3, r4, r5, r6⟩, f0, f1, f2, f3, f4, f5, f6⟩ := hV4.cells
        have HV2 := Lib.hid hV4
        clear hV4
        go_wp2_with (fail)
        have hd := HV2.out.done (.bool false) (.int .u16 0) (.int .u8 0) (.int .u8 0) (.int .u16 0) (.slice none 0 0) (.int .i64 0)
        refine bodyPost_ret (res_cell_cellE rfl _ _ (w.heap.size + 1) 45 _ _ ⟨w.heap.size + 1 + 1, 0, none⟩ (.int .i64 0) rfl hd.1 Try.underlying45 rfl agg_edns rfl (load_errno _ _ _ (hd.2.1.cell 0))) rfl ⟨rfl, ?_⟩
        exact ((KeepK.of_below (K := fun i => i < w.heap.size) HV2.out.b fun i hi => hi).trans (hd.2.2.mono fun i hi => by omega)).below fun i hi => hi
      · rw [hix] at HE
        clear hix
        obtain ⟨b, off, hA, hbl, hcl⟩ := (HM.out.1.te) (by omega)
        have hml := HM.out.2.2.2
        unfold maxLen at hml
        have hkI : (k : Int) < (m.e.length : Int) := by omega
        have hlI : (m.e.length : Int) ≤ 4010 := by omega
        have hcI : (m.e.length : Int) ≤ (m.ec : Int) := by omega
        have hcI2 : (m.ec : Int) ≤ 9223372036854775807 := by omega
        have hk2 : k + 1 < m.e.length := by
          rcases Nat.lt_or_ge (k + 1) m.e.length with h | h
          · exact h
          · rw [List.drop_eq_nil_of_le h] at hany; cases hany
        have hk2I : (k : Int) + 1 < (m.e.length : Int) := by omega
        have hk3 : k + 1 < m.ec := by omega
        have hk4 : ¬ m.ec - (k + 1) = 0 := by omega
        have HK := Lib.hid (And.intro hk hany)
        have HA := Lib.hid hA
        rw [hA] at HE m5 ⊢
        clear hk hany hA hbl hcl hml
        go_wp2_with (fail)
        with_reducible refine HE.out.mono ?_
        rintro e w4 ⟨rfl, hb4⟩
        have hV4 := HV3.out.1.below hb4
        have m5' := hV4.m0.cell 5
        rw [HA.out] at m5'
        have hsz4 := hV4.sz
        have hte := (HM.out.1.below hV4.b).te
        rw [HA.out] at hte
        have HD := Lib.hid (HC.out (m.e.drop (k + 1)) (some ⟨b, off + (k + 1) * 5, none⟩) (m.ec - (k + 1)) w4 (belowT HV3.out.2 hb4) (rtab_drop hte (k + 1)) (by rw [List.length_drop]; have := HM.out.2.2.2.1; omega))
        rw [HK.out.2, List.length_drop] at HD
        clear HV2 hte m5
        go_wp2_with (fail)
        with_reducible refine HD.out.mono ?_
        rintro e w5 ⟨rfl, hb5⟩
        have hV5 := hV4.below hb5
        clear hV4
        obtain ⟨⟨r0, r1, r2, r3, r4, r5, r6⟩, f0, f1, f2, f3, f4, f5, f6⟩ := hV5.cells
        have HV2 := Lib.hid hV5
        clear hV5
        go_wp2_with (fail)
        have hd := HV2.out.done (.bool false) (.int .u16 0) (.int .u8 0) (.int .u8 0) (.int .u16 0) (.slice none 0 0) (.int .i64 4)
        refine bodyPost_ret (res_cell_cellE rfl _ _ (w.heap.size + 1) 45 _ _ ⟨w.heap.size + 1 + 1, 0, none⟩ (.int .i64 4) rfl hd.1 Try.underlying45 rfl agg_edns rfl (load_errno _ _ _ (hd.2.1.cell 0))) rfl ⟨rfl, ?_⟩
        exact ((KeepK.of_below (K := fun i => i < w.heap.size) HV2.out.b fun i hi => hi).trans (hd.2.2.mono fun i hi => by omega)).below fun i hi => hi
end Go.Proofs.Ythjkdpphbipgfaa
