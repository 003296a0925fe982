/- The walks of slices.Clone at texts and of the cache's small functions: copied, lives, made, placeOf. Conditions: none. -/
import Derived.Test.YtfipacfompihkaaCaM
import Derived.Test.YtfipacfompihkaaRes
import Derived.Lib.SliceRun
import Derived.OwnWalk
import Derived.Deep.LoopGhost
import Derived.Outline
import Derived.Shelf.Abstract
import Derived.ChangeKeys
import Derived.Test.YtfipacfompihkaaSame
namespace Go.Proofs.Ytfipacfompihkaa
open Go.RowKit Go.Lib

/-- A slice that reads as texts. -/
def STab (w : World) (A : Option Addr) (xs : List ByteArray) : Prop := TTab w A (xs.map Value.string)
theorem STab.below {w w' : World} {A : Option Addr} {xs : List ByteArray} (h : STab w A xs) (hb : Below w.heap.size w w') : STab w' A xs := TTab.below h hb
theorem STab.nil_ {w : World} {A : Option Addr} : STab w A [] := fun h => absurd h (by simp)
theorem STab.reads {w : World} {A : Option Addr} {xs : List ByteArray} (h : STab w A xs) : Reads w w.heap.size 1 A xs.length (xs.map Value.string) := by
  refine ⟨by simp, fun hp => ?_⟩
  obtain ⟨b, off, hA, hlt, hc⟩ := h (by simpa using hp)
  exact ⟨⟨b, off, none⟩, hA, hlt, fun j u hu => by rw [add_lit']; exact hc j u hu⟩
theorem str_one (xs : List ByteArray) : ∀ u ∈ xs.map Value.string, u.oneCell' = true := by
  intro u hu
  obtain ⟨x, _, rfl⟩ := List.mem_map.1 hu
  rfl
theorem stab_of_sl {w : World} {A : Option Addr} {c : Nat} {xs : List ByteArray} (h : Sl w 1 (.slice A xs.length c) xs.length (xs.map Value.string)) : STab w A xs :=
  ttab_of_sl (by rw [List.length_map]; exact h)
theorem STab.keep {w w' : World} {A : Option Addr} {xs : List ByteArray} (h : STab w A xs) (hs : w.heap.size ≤ w'.heap.size) (hk : 0 < xs.length → ∀ a, A = some a → w'.heap[a.block]? = w.heap[a.block]?) : STab w' A xs := fun hp => by
  obtain ⟨b, off, hA, hlt, hc⟩ := h hp
  refine ⟨b, off, hA, Nat.lt_of_lt_of_le hlt hs, fun j u hu => ?_⟩
  rw [World.cell?_of_block (w := w) (a := ⟨b, off + j, none⟩) (hk (by simpa using hp) ⟨b, off, none⟩ hA)]
  exact hc j u hu
theorem info_strC : (Try.prog.info? 9).map (fun i => (i.zero, i.size, i.bytes)) = some (some (.string ⟨#[]⟩), 1, 16) := by kernel_rfl
def ClPostS (xs : List ByteArray) (w : World) (e : Ending) (w' : World) : Prop :=
  ∃ A c, e = .returned (.slice A xs.length c) ∧ Sl w' 1 (.slice A xs.length c) xs.length (xs.map Value.string) ∧ (∀ g, (Value.slice A xs.length c).ownBlock = some g → w.heap.size ≤ g) ∧ Below w.heap.size w w'
set_option maxRecDepth 100000 in
theorem cloneS_any (xs : List ByteArray) (A : Option Addr) (c : Nat) (w : World) (hT : STab w A xs) (hn : xs.length ≤ 8192) :
    Calls Try.prog 84 #[.slice A xs.length c] w (ClPostS xs w) := by
  obtain ⟨i0, hi0, hz0, hz1, hz2⟩ : ∃ i, Try.prog.info? 9 = some i ∧ i.zero = some (.string ⟨#[]⟩) ∧ i.size = 1 ∧ i.bytes = 16 := by
    have h := info_strC
    cases hi : Try.prog.info? 9 with
    | none => rw [hi] at h; cases h
    | some i => rw [hi] at h; simp at h; exact ⟨i, rfl, h.1, h.2.1, h.2.2⟩
  cases A with
  | none =>
    have h0 : xs = [] := by
      cases xs with
      | nil => rfl
      | cons e xs => obtain ⟨_, _, h, _⟩ := hT (by simp); cases h
    subst h0
    have hq := fun w : World => Lib.run_eql_slice_nil w _ _ none 0 c 0 0 Try.underlying47
    simp only [Option.isNone_none] at hq
    clear hT
    go_enter Try.func84, Try.ntmps84
    go_wp2_with (fail)
    go_ret
    exact ⟨none, 0, rfl, Sl.nil _ _, fun g hg => by simp [Value.ownBlock] at hg, Below.refl _ _⟩
  | some a =>
    have hq := fun w : World => Lib.run_eql_slice_nil w _ _ (some a) xs.length c 0 0 Try.underlying47
    simp only [Option.isNone_some] at hq
    have HSR := Lib.hid (src_reads (P := Try.prog) (c := c) Try.underlying47 ((hT.below ((Below.refl _ w).alloc (Nat.le_refl _) (.cells #[] 9))).reads) (str_one xs))
    have HSL := Lib.hid (sl_empty w 9)
    clear hT
    go_enter Try.func84, Try.ntmps84
    go_wp2_with (at_builtin; go_must (refine wpList_append_sl _ rfl (.tmp 5) (.tmp 6) 47 47 rfl 9 i0 (.string ⟨#[]⟩) 1 16 Try.underlying47 hi0 hz0 hz1 hz2 rfl (.slice (some ⟨w.heap.size, 0, none⟩) 0 0) 0 [] rfl HSL.out (.slice (some a) xs.length c) rfl xs.length (xs.map Value.string) HSR.out (by unfold maxLen; omega) (by omega) ?_); intro v1 w1 hs1 hg1 hv1; rw [Nat.zero_add, List.nil_append] at hs1; obtain ⟨A3, c3, rfl, _⟩ := hs1.shape)
    go_ret
    refine ⟨A3, c3, rfl, hs1, own_from (B := w.heap.size) (fun g hg => by simp [Value.ownBlock] at hg; omega) (by simp) hv1, ?_⟩
    exact ((Below.refl _ _).alloc (Nat.le_refl _) _).grown hg1 (by simp) (fun k hk => by simp [Value.ownBlock] at hk; omega)

theorem blk8 {w : World} {g : Nat} {t : TypeId} {a0 a1 a2 a3 a4 a5 a6 a7 : Value} (h : Blk w g t #[a0, a1, a2, a3, a4, a5, a6, a7]) (b0 b1 b2 b3 b4 b5 b6 b7 : Value) :
    Blk ((((((((w.setCell ⟨g, 0, none⟩ (b0)).setCell ⟨g, 1, none⟩ (b1)).setCell ⟨g, 2, none⟩ (b2)).setCell ⟨g, 3, none⟩ (b3)).setCell ⟨g, 4, none⟩ (b4)).setCell ⟨g, 5, none⟩ (b5)).setCell ⟨g, 6, none⟩ (b6)).setCell ⟨g, 7, none⟩ (b7)) g t #[b0, b1, b2, b3, b4, b5, b6, b7] := by
  have := (((((((h.set_ 0 b0).set_ 1 b1).set_ 2 b2).set_ 3 b3).set_ 4 b4).set_ 5 b5).set_ 6 b6).set_ 7 b7
  simpa using this
/-- A thing lies well: its numbers are such, its data read. -/
structure Th.ok (h : Th) : Prop where
  n : h.n.size ≤ maxLen
  t : 0 ≤ h.t ∧ h.t ≤ 65535
  l : 0 ≤ h.l ∧ h.l ≤ 4294967295
  x : h.xs.length ≤ 64
  un : 0 ≤ h.un ∧ h.un ≤ 9223372036854775807
def Th.with_ (h : Th) (A : Option Addr) (c : Nat) : Th := { h with A := A, c := c }
def CopP (h : Th) (w : World) (e : Ending) (w' : World) : Prop :=
  ∃ A c, e = .returned (h.with_ A c).val ∧ Sl w' 1 (.slice A h.xs.length c) h.xs.length (h.xs.map Value.string) ∧ (∀ g, (Value.slice A h.xs.length c).ownBlock = some g → w.heap.size ≤ g) ∧ Below w.heap.size w w'
set_option maxRecDepth 100000 in
set_option maxHeartbeats 2000000 in
theorem copied_any (h : Th) (w : World) (hT : STab w h.A h.xs) (hn : h.xs.length ≤ 64) :
    Calls Try.prog 54 #[h.val] w (CopP h w) := by
  have HC := Lib.hid (fun W (hW : Below w.heap.size w W) => cloneS_any h.xs h.A h.c W (hT.below hW) (by omega))
  obtain ⟨n, t, l, A, xs, c, rk, no, nm, un⟩ := h
  clear hT hn
  dsimp only [Th.val] at HC ⊢
  go_enter Try.func54, Try.ntmps54
  go_wp2_with (fail)
  obtain ⟨V, hV⟩ : ∃ V, (w.alloc (.cells #[.string n, .int .u16 t, .int .u32 l, .slice A xs.length c, .int .u8 rk, .bool no, .bool nm, .int .i64 un] 120)).alloc (.cells #[.string ⟨#[]⟩, .int .u16 0, .int .u32 0, .slice none 0 0, .int .u8 0, .bool false, .bool false, .int .i64 0] 120) = V := ⟨_, rfl⟩
  have HV := Lib.hid (show Below w.heap.size w V ∧ Blk V w.heap.size 120 #[.string n, .int .u16 t, .int .u32 l, .slice A xs.length c, .int .u8 rk, .bool no, .bool nm, .int .i64 un] ∧ Blk V (w.heap.size + 1) 120 #[.string ⟨#[]⟩, .int .u16 0, .int .u32 0, .slice none 0 0, .int .u8 0, .bool false, .bool false, .int .i64 0] ∧ V.heap.size = w.heap.size + 2 from by
    rw [← hV]
    exact ⟨((Below.refl _ _).alloc (Nat.le_refl _) _).alloc (by simp) _, (Blk.new _ _ _).alloc _, heap_alloc2_new w _ _, by simp⟩)
  rw [hV]
  clear hV
  have s3 := HV.out.2.1.cell 3
  go_wp2_with (fail)
  with_reducible refine (HC.out _ HV.out.1).mono ?_
  rintro e w2 ⟨A2, c2, rfl, hS, hO, hb⟩
  have H2 := Lib.hid (show Blk w2 w.heap.size 120 #[.string n, .int .u16 t, .int .u32 l, .slice A xs.length c, .int .u8 rk, .bool no, .bool nm, .int .i64 un] ∧ Blk w2 (w.heap.size + 1) 120 #[.string ⟨#[]⟩, .int .u16 0, .int .u32 0, .slice none 0 0, .int .u8 0, .bool false, .bool false, .int .i64 0] ∧ Below w.heap.size w w2 ∧ Sl w2 1 (.slice A2 xs.length c2) xs.length (xs.map Value.string) ∧ (∀ g, (Value.slice A2 xs.length c2).ownBlock = some g → w.heap.size + 2 ≤ g) from
    ⟨HV.out.2.1.below hb HV.out.2.1.lt, HV.out.2.2.1.below hb HV.out.2.2.1.lt, HV.out.1.trans (hb.mono HV.out.1.size), hS, fun g hg => by have := hO g hg; have := HV.out.2.2.2; omega⟩)
  clear s3 hS hO hb
  dsimp only
  have s0 := H2.out.1.cell 0; have s1 := H2.out.1.cell 1; have s2 := H2.out.1.cell 2; have s3 := H2.out.1.cell 3; have s4 := H2.out.1.cell 4; have s5 := H2.out.1.cell 5; have s6 := H2.out.1.cell 6; have s7 := H2.out.1.cell 7
  have f3 := H2.out.1.frozen 3
  have r0 := H2.out.2.1.cell 0; have r1 := H2.out.2.1.cell 1; have r2 := H2.out.2.1.cell 2; have r3 := H2.out.2.1.cell 3; have r4 := H2.out.2.1.cell 4; have r5 := H2.out.2.1.cell 5; have r6 := H2.out.2.1.cell 6; have r7 := H2.out.2.1.cell 7
  have f0 := H2.out.2.1.frozen 0; have f1 := H2.out.2.1.frozen 1; have f2 := H2.out.2.1.frozen 2; have g3 := H2.out.2.1.frozen 3; have f4 := H2.out.2.1.frozen 4; have f5 := H2.out.2.1.frozen 5; have f6 := H2.out.2.1.frozen 6; have f7 := H2.out.2.1.frozen 7
  go_wp2_with (fail)
  obtain ⟨W4, hW4⟩ : ∃ W4, (((((((((w2.setCell ⟨w.heap.size, 3, none⟩ (.slice A2 xs.length c2)).setCell ⟨w.heap.size + 1, 0, none⟩ (.string n)).setCell ⟨w.heap.size + 1, 1, none⟩ (.int .u16 t)).setCell ⟨w.heap.size + 1, 2, none⟩ (.int .u32 l)).setCell ⟨w.heap.size + 1, 3, none⟩ (.slice A2 xs.length c2)).setCell ⟨w.heap.size + 1, 4, none⟩ (.int .u8 rk)).setCell ⟨w.heap.size + 1, 5, none⟩ (.bool no)).setCell ⟨w.heap.size + 1, 6, none⟩ (.bool nm)).setCell ⟨w.heap.size + 1, 7, none⟩ (.int .i64 un)) = W4 := ⟨_, rfl⟩
  have hB4 : Blk W4 (w.heap.size + 1) 120 #[.string n, .int .u16 t, .int .u32 l, .slice A2 xs.length c2, .int .u8 rk, .bool no, .bool nm, .int .i64 un] := by
    rw [← hW4]
    exact blk8 (Blk.far H2.out.2.1 (p := ⟨w.heap.size, 3, none⟩) (by show w.heap.size + 1 ≠ w.heap.size; omega) _) _ _ _ _ _ _ _ _
  have hb4 : Below w.heap.size w W4 := by
    rw [← hW4]
    exact ((((((((H2.out.2.2.1.setCell (p := ⟨w.heap.size, 3, none⟩) (Nat.le_refl _) _).setCell (p := ⟨w.heap.size + 1, 0, none⟩) (by show w.heap.size ≤ w.heap.size + 1; omega) _).setCell (p := ⟨w.heap.size + 1, 1, none⟩) (by show w.heap.size ≤ w.heap.size + 1; omega) _).setCell (p := ⟨w.heap.size + 1, 2, none⟩) (by show w.heap.size ≤ w.heap.size + 1; omega) _).setCell (p := ⟨w.heap.size + 1, 3, none⟩) (by show w.heap.size ≤ w.heap.size + 1; omega) _).setCell (p := ⟨w.heap.size + 1, 4, none⟩) (by show w.heap.size ≤ w.heap.size + 1; omega) _).setCell (p := ⟨w.heap.size + 1, 5, none⟩) (by show w.heap.size ≤ w.heap.size + 1; omega) _).setCell (p := ⟨w.heap.size + 1, 6, none⟩) (by show w.heap.size ≤ w.heap.size + 1; omega) _).setCell (p := ⟨w.heap.size + 1, 7, none⟩) (by show w.heap.size ≤ w.heap.size + 1; omega) _
  have hs4 : Sl W4 1 (.slice A2 xs.length c2) xs.length (xs.map Value.string) := by
    rw [← hW4]
    exact ((((((((H2.out.2.2.2.1.far (p := ⟨w.heap.size, 3, none⟩) (fun g hg e => by have := H2.out.2.2.2.2 g hg; simp at e; omega) _).far (p := ⟨w.heap.size + 1, 0, none⟩) (fun g hg e => by have := H2.out.2.2.2.2 g hg; simp at e; omega) _).far (p := ⟨w.heap.size + 1, 1, none⟩) (fun g hg e => by have := H2.out.2.2.2.2 g hg; simp at e; omega) _).far (p := ⟨w.heap.size + 1, 2, none⟩) (fun g hg e => by have := H2.out.2.2.2.2 g hg; simp at e; omega) _).far (p := ⟨w.heap.size + 1, 3, none⟩) (fun g hg e => by have := H2.out.2.2.2.2 g hg; simp at e; omega) _).far (p := ⟨w.heap.size + 1, 4, none⟩) (fun g hg e => by have := H2.out.2.2.2.2 g hg; simp at e; omega) _).far (p := ⟨w.heap.size + 1, 5, none⟩) (fun g hg e => by have := H2.out.2.2.2.2 g hg; simp at e; omega) _).far (p := ⟨w.heap.size + 1, 6, none⟩) (fun g hg e => by have := H2.out.2.2.2.2 g hg; simp at e; omega) _).far (p := ⟨w.heap.size + 1, 7, none⟩) (fun g hg e => by have := H2.out.2.2.2.2 g hg; simp at e; omega) _
  clear r0 r1 r2 r3 r4 r5 r6 r7 s0 s1 s2 s3 s4 s5 s6 s7 f0 f1 f2 f3 f4 f5 f6 f7 g3
  rw [hW4]
  have r0 := hB4.cell 0; have r1 := hB4.cell 1; have r2 := hB4.cell 2; have r3 := hB4.cell 3; have r4 := hB4.cell 4; have r5 := hB4.cell 5; have r6 := hB4.cell 6; have r7 := hB4.cell 7
  exact bodyPost_ret (v := .agg #[.string n, .int .u16 t, .int .u32 l, .slice A2 xs.length c2, .int .u8 rk, .bool no, .bool nm, .int .i64 un]) (by simp [results, Try.results54, go_sem, r0, r1, r2, r3, r4, r5, r6, r7]) rfl ⟨A2, c2, rfl, hs4, fun g hg => by have := H2.out.2.2.2.2 g hg; omega, hb4⟩
theorem made_any {w : World} {g : Nat} {r : Int} {rb mb : Nat} (h : Blk w g 114 #[.int .i64 r, .pointer (at_ rb), .map (some mb)]) :
    Calls Try.prog 50 #[.pointer (some ⟨g, 0, none⟩)] w fun e w' => e = .returned (.bool true) ∧ w = w' := by
  have c1 := h.cell 1
  unfold at_ at c1
  clear h
  go_enter Try.func50, Try.ntmps50
  go_wp2_with (fail)
  go_ret
  exact ⟨rfl, rfl⟩
theorem lives_any (h : Th) (now : Int) (w : World) :
    Calls Try.prog 52 #[h.val, .int .i64 now] w fun e w' => e = .returned (.bool (decide (now < h.un))) ∧ Below w.heap.size w w' := by
  obtain ⟨n, t, l, A, xs, c, rk, no, nm, un⟩ := h
  dsimp only [Th.val]
  go_enter Try.func52, Try.ntmps52
  go_wp2_with (fail)
  go_ret
  exact ⟨rfl, (Below.refl _ _).alloc (Nat.le_refl _) _⟩
/-- A name's place. -/
def plC (n : ByteArray) (k : Int) : Value := .agg #[.string ⟨(foldB n.data.toList).toArray⟩, .int .u16 k]
theorem placeOf_any (n : ByteArray) (k : Int) (hn : n.size ≤ 9223372036854775807) (w : World) :
    Calls Try.prog 51 #[.string n, .int .u16 k] w fun e w' => e = .returned (plC n k) ∧ Below w.heap.size w w' := by
  have HF := Lib.hid (fun W => Fold_any n hn W)
  unfold plC
  go_enter Try.func51, Try.ntmps51
  go_wp2_with (fail)
  with_reducible refine (HF.out _).mono ?_
  rintro e w2 ⟨rfl, hb⟩
  obtain ⟨F, hF⟩ : ∃ F : ByteArray, (⟨(foldB n.data.toList).toArray⟩ : ByteArray) = F := ⟨_, rfl⟩
  rw [hF]
  have hb1 : Below w.heap.size w w2 := ((Below.refl _ w).alloc (Nat.le_refl _) _).trans (hb.mono (by simp))
  have hB : Blk w2 w.heap.size 116 #[.string ⟨#[]⟩, .int .u16 0] := (Blk.new w _ _).below hb (by simp)
  have HB := Lib.hid (And.intro hB hb1)
  have HF2 := Lib.hid hF
  clear hb hb1 hF
  have r0 := hB.cell 0; have r1 := hB.cell 1
  have f0 := hB.frozen 0; have f1 := hB.frozen 1
  clear hB
  go_wp2_with (fail)
  obtain ⟨W4, hW4⟩ : ∃ W4, (w2.setCell ⟨w.heap.size, 0, none⟩ (.string F)).setCell ⟨w.heap.size, 1, none⟩ (.int .u16 k) = W4 := ⟨_, rfl⟩
  have hB4 : Blk W4 w.heap.size 116 #[.string F, .int .u16 k] := by
    rw [← hW4]
    have := (HB.out.1.set_ 0 (.string F)).set_ 1 (.int .u16 k)
    simpa using this
  have hb4 : Below w.heap.size w W4 := by
    rw [← hW4]
    exact (HB.out.2.setCell (p := ⟨w.heap.size, 0, none⟩) (Nat.le_refl _) _).setCell (p := ⟨w.heap.size, 1, none⟩) (Nat.le_refl _) _
  clear r0 r1 f0 f1
  rw [hW4]
  have r0 := hB4.cell 0; have r1 := hB4.cell 1
  exact bodyPost_ret (v := .agg #[.string F, .int .u16 k]) (by simp [results, Try.results51, go_sem, r0, r1]) rfl ⟨by rw [← HF2.out], hb4⟩

/-! ### Keys -/
def plK (s : Bs) (k : Int) : Lit := .string (keyBytes [.string s, .int .u16 k])
theorem types_manyC : ∃ m, Try.prog.types.size = m + 2 := by
  have h : (2 ≤ Try.prog.types.size) := of_decide_eq_true (by kernel_rfl)
  exact ⟨Try.prog.types.size - 2, by omega⟩
theorem plc_keyType : Try.prog.keyType 116 = true := by kernel_rfl
theorem plc_keyTypeAt : Try.prog.keyTypeAt 3 116 = true := by kernel_rfl
theorem plc_cells : Try.prog.cellsOf 116 = 2 := by kernel_rfl
theorem str_cellsC : Try.prog.cellsOf 9 = 1 := by kernel_rfl
theorem rt_cellsC : Try.prog.cellsOf 44 = 1 := by kernel_rfl
theorem laidOutC : laidOutB Try.prog = true := by kernel_rfl
theorem wf16C {x : Int} (h : 0 ≤ x ∧ x ≤ 65535) : (Lit.int .u16 x).wf = true := by
  simp [Lit.wf, IntKind.min, IntKind.max, IntKind.signed, IntKind.bits]; omega
theorem plc_keyed : Maps.Keyed Try.prog 116 :=
  Maps.Keyed.of_law (deep_law_laid laidOutC (m := 3) (by decide) (of_decide_eq_true (by kernel_rfl)) plc_keyTypeAt (by kernel_rfl))
theorem keyOf_plc (s : ByteArray) (k : Int) (hs : s.size ≤ maxLen) (hk : 0 ≤ k ∧ k ≤ 65535) : keyOf Try.prog 116 (.agg #[.string s, .int .u16 k]) = some (plK s.data.toList k) := by
  obtain ⟨m, hm⟩ := types_manyC
  have h1 := wf16C hk
  unfold keyOf plK
  rw [Try.underlying116, plc_keyType, hm]
  simp [Value.formed, Try.underlying116, plc_cells, Program.keyLits, str_cellsC, rt_cellsC, Try.underlying9, Try.underlying44, Value.cells, h1, hs]
theorem plK_isKey (s : Bs) (k : Int) : WideAt.IsKeyLit (plK s k) := trivial
theorem plK_inj {s s' : Bs} {k k' : Int} (hs : s.length ≤ maxLen) (hs' : s'.length ≤ maxLen) (hk : 0 ≤ k ∧ k ≤ 65535) (hk' : 0 ≤ k' ∧ k' ≤ 65535) (h : plK s k = plK s' k') : s = s' ∧ k = k' := by
  unfold plK at h
  injection h with h
  have := keyBytes_inj (l := [.string s, .int .u16 k]) (l' := [.string s', .int .u16 k']) ⟨trivial, rfl, trivial⟩ (fun a ha => by
    simp only [List.mem_cons, List.not_mem_nil, or_false] at ha
    rcases ha with rfl | rfl
    · exact hs
    · exact wf16C hk) (fun a ha => by
    simp only [List.mem_cons, List.not_mem_nil, or_false] at ha
    rcases ha with rfl | rfl
    · exact hs'
    · exact wf16C hk') h
  injection this with h1 h2
  injection h2 with h2 _
  injection h1 with h1
  injection h2 with _ h2
  exact ⟨h1, h2⟩
end Go.Proofs.Ytfipacfompihkaa
