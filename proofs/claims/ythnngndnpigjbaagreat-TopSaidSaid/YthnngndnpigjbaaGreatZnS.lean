/- The walk of zone.fits. Conditions: none. The walk of zone.sound. Conditions: none. -/
import Derived.Test.YthnngndnpigjbaaGreatZnL
import Derived.Test.YthnngndnpigjbaaGreatUp
import Derived.Deep.DeepCutAuto
import Derived.Sort.CutIn
import Derived.Test.YthnngndnpigjbaaGreatRrOk
import Derived.Maps.RangeWalk
import Derived.WalkKit
namespace Go.Proofs.YthnngndnpigjbaaGreat
open Go.RowKit Go.Shelf
attribute [local go_sem] Oper.semAt_some

theorem toList_ne {s t : ByteArray} (h : ¬ s = t) : (s.toList == t.toList) = false := by
  rw [ByteArray.toList_eq, ByteArray.toList_eq]
  simp only [beq_eq_false_iff_ne, ne_eq]
  intro e
  apply h
  cases s; cases t
  simpa using e
theorem data_ne {s t : ByteArray} (h : ¬ s = t) : ¬ s.data.toList = t.data.toList := fun e => h (by cases s; cases t; simpa using e)
theorem up_hit {top name : Bs} {N : Bs → Hd} {us pre : List Bs} {x : Bs} (hp : pre ++ [x] <+: us) (h1 : ∀ u ∈ pre, ¬ u = top ∧ (u = name ∨ (N u).ns = 0)) (h2 : x = top ∨ (¬ x = name ∧ 0 < (N x).ns)) : upF top name N us = some x := by
  obtain ⟨r, hr⟩ := hp
  unfold upF
  rw [← hr, List.append_assoc, List.find?_append, List.find?_eq_none.2 (by
    intro u hu
    obtain ⟨k1, k2⟩ := h1 u hu
    rcases k2 with k2 | k2
    · simp only [Bool.or_eq_true, Bool.and_eq_true, Bool.not_eq_true', decide_eq_true_eq, decide_eq_false_iff_not]; rintro (a | ⟨a, _⟩); exact k1 a; exact a k2
    · simp only [Bool.or_eq_true, Bool.and_eq_true, Bool.not_eq_true', decide_eq_true_eq, decide_eq_false_iff_not]; rintro (a | ⟨_, a⟩); exact k1 a; omega)]
  have h3 : (decide (x = top) || (!decide (x = name) && decide (0 < (N x).ns))) = true := by
    rcases h2 with h2 | ⟨h2, h3⟩
    · simp [h2]
    · simp [h2, h3]
  simp [h3]
theorem up_none {top name : Bs} {N : Bs → Hd} {us : List Bs} (h1 : ∀ u ∈ us, ¬ u = top ∧ (u = name ∨ (N u).ns = 0)) : upF top name N us = none := by
  unfold upF
  refine List.find?_eq_none.2 ?_
  intro u hu
  obtain ⟨k1, k2⟩ := h1 u hu
  rcases k2 with k2 | k2
  · simp only [Bool.or_eq_true, Bool.and_eq_true, Bool.not_eq_true', decide_eq_true_eq, decide_eq_false_iff_not]; rintro (a | ⟨a, _⟩); exact k1 a; exact a k2
  · simp only [Bool.or_eq_true, Bool.and_eq_true, Bool.not_eq_true', decide_eq_true_eq, decide_eq_false_iff_not]; rintro (a | ⟨_, a⟩); exact k1 a; omega
theorem ups_len {l x : Bs} (h : x ∈ upsL l) : x.length ≤ l.length := by
  unfold upsL at h
  split at h
  · obtain ⟨k, _, rfl⟩ := List.mem_map.1 h
    rw [List.length_drop]; omega
  · cases h
theorem pre_mem {α : Type} {us : List α} {x : α} {L : List α} (h : us ++ [x] <+: L) : x ∈ L := by
  obtain ⟨r, hr⟩ := h
  rw [← hr]; simp
/-- The boxes of a call of fits. -/
structure FitBx (w V : World) (vb : Nat) (s top : ByteArray) (a0 a1 a2 a3 a4 : Nat) (b : Bool) : Prop where
  below : Below w.heap.size w V
  size : w.heap.size + 5 ≤ V.heap.size
  b0 : Blk V w.heap.size 101 #[.pointer (some ⟨vb, 0, none⟩)]
  b1 : Blk V (w.heap.size + 1) 9 #[.string s]
  b2 : Blk V (w.heap.size + 1 + 1) 9 #[.string top]
  b3 : Blk V (w.heap.size + 1 + 1 + 1) 111 #[.int .i64 (a0 : Int), .int .i64 (a1 : Int), .int .i64 (a2 : Int), .int .i64 (a3 : Int), .int .i64 (a4 : Int)]
  b4 : Blk V (w.heap.size + 1 + 1 + 1 + 1) 4 #[.bool b]
section
variable {w V V' : World} {vb : Nat} {s top : ByteArray} {a0 a1 a2 a3 a4 : Nat} {b : Bool}
theorem FitBx.made (w : World) (vb : Nat) (s top : ByteArray) (a0 a1 a2 a3 a4 : Nat) :
    FitBx w (((((w.alloc (.cells #[.pointer (some ⟨vb, 0, none⟩)] 101)).alloc (.cells #[.string s] 9)).alloc (.cells #[.string top] 9)).alloc (.cells #[.int .i64 (a0 : Int), .int .i64 (a1 : Int), .int .i64 (a2 : Int), .int .i64 (a3 : Int), .int .i64 (a4 : Int)] 111)).alloc (.cells #[.bool false] 4)) vb s top a0 a1 a2 a3 a4 false := by
  obtain ⟨A, hA⟩ : ∃ A, w.alloc (.cells #[.pointer (some ⟨vb, 0, none⟩)] 101) = A := ⟨_, rfl⟩
  have zA : A.heap.size = w.heap.size + 1 := by rw [← hA]; simp
  have bA : Below w.heap.size w A := by rw [← hA]; exact (Below.refl _ _).alloc (Nat.le_refl _) _
  have hA0 : Blk A w.heap.size 101 #[.pointer (some ⟨vb, 0, none⟩)] := by rw [← hA]; exact Blk.new _ _ _
  rw [hA]
  obtain ⟨B, hB⟩ : ∃ B, A.alloc (.cells #[.string s] 9) = B := ⟨_, rfl⟩
  have zB : B.heap.size = w.heap.size + 1 + 1 := by rw [← hB, World.size_alloc, zA]
  have hB1 : Blk B (w.heap.size + 1) 9 #[.string s] := by rw [← hB, ← zA]; exact Blk.new _ _ _
  have hB0 : Blk B w.heap.size 101 #[.pointer (some ⟨vb, 0, none⟩)] := by rw [← hB]; exact hA0.alloc _
  have bB : Below w.heap.size w B := by rw [← hB]; exact bA.alloc (by omega) _
  rw [hB]
  obtain ⟨C, hC⟩ : ∃ C, B.alloc (.cells #[.string top] 9) = C := ⟨_, rfl⟩
  have zC : C.heap.size = w.heap.size + 1 + 1 + 1 := by rw [← hC, World.size_alloc, zB]
  have hC2 : Blk C (w.heap.size + 1 + 1) 9 #[.string top] := by rw [← hC, ← zB]; exact Blk.new _ _ _
  have hC1 : Blk C (w.heap.size + 1) 9 #[.string s] := by rw [← hC]; exact hB1.alloc _
  have hC0 : Blk C w.heap.size 101 #[.pointer (some ⟨vb, 0, none⟩)] := by rw [← hC]; exact hB0.alloc _
  have bC : Below w.heap.size w C := by rw [← hC]; exact bB.alloc (by omega) _
  rw [hC]
  obtain ⟨D, hD⟩ : ∃ D, C.alloc (.cells #[.int .i64 (a0 : Int), .int .i64 (a1 : Int), .int .i64 (a2 : Int), .int .i64 (a3 : Int), .int .i64 (a4 : Int)] 111) = D := ⟨_, rfl⟩
  have zD : D.heap.size = w.heap.size + 1 + 1 + 1 + 1 := by rw [← hD, World.size_alloc, zC]
  have hD3 : Blk D (w.heap.size + 1 + 1 + 1) 111 #[.int .i64 (a0 : Int), .int .i64 (a1 : Int), .int .i64 (a2 : Int), .int .i64 (a3 : Int), .int .i64 (a4 : Int)] := by rw [← hD, ← zC]; exact Blk.new _ _ _
  have hD2 : Blk D (w.heap.size + 1 + 1) 9 #[.string top] := by rw [← hD]; exact hC2.alloc _
  have hD1 : Blk D (w.heap.size + 1) 9 #[.string s] := by rw [← hD]; exact hC1.alloc _
  have hD0 : Blk D w.heap.size 101 #[.pointer (some ⟨vb, 0, none⟩)] := by rw [← hD]; exact hC0.alloc _
  have bD : Below w.heap.size w D := by rw [← hD]; exact bC.alloc (by omega) _
  rw [hD]
  refine ⟨bD.alloc (by omega) _, by rw [World.size_alloc]; omega, hD0.alloc _, hD1.alloc _, hD2.alloc _, hD3.alloc _, ?_⟩
  rw [← zD]
  exact Blk.new _ _ _
theorem FitBx.keep (h : FitBx w V vb s top a0 a1 a2 a3 a4 b) (hk : Below V.heap.size V V') : FitBx w V' vb s top a0 a1 a2 a3 a4 b := by
  have hz := h.size
  have hz2 := hk.size
  exact ⟨h.below.trans (hk.mono h.below.size), by omega, h.b0.below hk (by omega), h.b1.below hk (by omega), h.b2.below hk (by omega), h.b3.below hk (by omega), h.b4.below hk (by omega)⟩
theorem FitBx.out {B X : Nat} (h : FitBx w V vb s top a0 a1 a2 a3 a4 b) (hB : w.heap.size + 5 ≤ B) (ho : Out B X V V') : FitBx w V' vb s top a0 a1 a2 a3 a4 b := by
  have hz := h.size
  have k : ∀ i, i < w.heap.size + 5 → V'.heap[i]? = V.heap[i]? := fun i hi => ho.block i (by omega) (.inl (by omega))
  exact ⟨⟨ho.os.trans h.below.os, ho.tape.trans h.below.tape, ho.output.trans h.below.output, Nat.le_trans h.below.size ho.size, fun i hi => (k i (by omega)).trans (h.below.block i hi)⟩, Nat.le_trans hz ho.size,
    (k _ (by omega)).trans h.b0, (k _ (by omega)).trans h.b1, (k _ (by omega)).trans h.b2, (k _ (by omega)).trans h.b3, (k _ (by omega)).trans h.b4⟩
theorem FitBx.put (h : FitBx w V vb s top a0 a1 a2 a3 a4 b) {D : Nat} (hD : w.heap.size + 5 ≤ D) (o : Obj) : FitBx w (V.putObj D o) vb s top a0 a1 a2 a3 a4 b :=
  h.out (B := w.heap.size + 5) (X := D + 1) (Nat.le_refl _) (.put _ ⟨hD, by omega⟩)
theorem FitBx.res (h : FitBx w V vb s top a0 a1 a2 a3 a4 b) (r : Bool) : FitBx w (V.setCell ⟨w.heap.size + 1 + 1 + 1 + 1, 0, none⟩ (.bool r)) vb s top a0 a1 a2 a3 a4 r := by
  have hz := h.size
  exact ⟨h.below.setCell (p := ⟨w.heap.size + 1 + 1 + 1 + 1, 0, none⟩) (by show w.heap.size ≤ w.heap.size + 1 + 1 + 1 + 1; omega) _, by simp [World.setCell]; omega, h.b0.far (by show w.heap.size ≠ w.heap.size + 1 + 1 + 1 + 1; omega) _, h.b1.far (by show w.heap.size + 1 ≠ w.heap.size + 1 + 1 + 1 + 1; omega) _,
    h.b2.far (by show w.heap.size + 1 + 1 ≠ w.heap.size + 1 + 1 + 1 + 1; omega) _, h.b3.far (by show w.heap.size + 1 + 1 + 1 ≠ w.heap.size + 1 + 1 + 1 + 1; omega) _, h.b4.set_ 0 _⟩
end

set_option maxRecDepth 100000 in
set_option maxHeartbeats 4000000 in
theorem fits_any (vb sb nb : Nat) (z : ByteArray) (A : Option Addr) (len c m : Nat) (pre : List RRec) (s top : ByteArray) (h : Hd) (hs : s.size ≤ maxLen) (ht : top.size ≤ maxLen)
    (hh : h.ns ≤ 1000 ∧ h.adr ≤ 1000) (w : World) (hl : LkS w vb sb nb z A len c m pre) :
    Calls Tryz.prog 53 #[.pointer (some ⟨vb, 0, none⟩), .string s, .string top, h.val] w fun e w' => e = .returned (.bool (fitsB top.data.toList s.data.toList (hdOf pre) h)) ∧ Below w.heap.size w w' := by
  obtain ⟨a0, a1, a2, a3, a4⟩ := h
  dsimp only [Hd.val] at hh ⊢
  obtain ⟨res, hres⟩ : ∃ res, fitsB top.data.toList s.data.toList (hdOf pre) ⟨a0, a1, a2, a3, a4⟩ = res := ⟨_, rfl⟩
  rw [hres]
  have HR := Lib.hid hres
  have HH := Lib.hid (And.intro hs (And.intro ht (And.intro hh hl)))
  clear hres hs ht hh hl
  obtain ⟨n, hn⟩ : ∃ n : Nat, 8 ≤ n := ⟨8, by omega⟩
  refine (callsIn_wide (n := n)).1 ?_
  have h1n : 1 ≤ n := by omega
  clear hn
  refine callsIn_of_wp_marks Tryz.func53 rfl trivial ?_ rfl
  simp only [Tryz.ntmps53, List.size_toArray, List.length_cons, List.length_nil, Nat.reduceAdd, Nat.reduceSub, Array.replicate_succ, Array.replicate_zero, List.push_toArray, List.append_toArray, List.nil_append, List.cons_append]
  gi_upto_region 1 with (fail)
  obtain ⟨V, hVe⟩ : ∃ V, ((((w.alloc (.cells #[.pointer (some ⟨vb, 0, none⟩)] 101)).alloc (.cells #[.string s] 9)).alloc (.cells #[.string top] 9)).alloc (.cells #[.int .i64 (a0 : Int), .int .i64 (a1 : Int), .int .i64 (a2 : Int), .int .i64 (a3 : Int), .int .i64 (a4 : Int)] 111)).alloc (.cells #[.bool false] 4) = V := ⟨_, rfl⟩
  have hV := FitBx.made w vb s top a0 a1 a2 a3 a4
  rw [hVe] at hV ⊢
  clear hVe
  have u0 := hV.b0.cell 0
  have u1 := hV.b1.cell 0
  have u2 := hV.b2.cell 0
  have u30 := hV.b3.cell 0
  have u31 := hV.b3.cell 1
  have u32 := hV.b3.cell 2
  have u33 := hV.b3.cell 3
  have u34 := hV.b3.cell 4
  have u4 := hV.b4.cell 0
  have f4 := hV.b4.frozen 0
  have HV := Lib.hid hV
  clear hV
  have HE : RowKit.Hid (∀ r, res = r → ∀ V', FitBx w V' vb s top a0 a1 a2 a3 a4 r → V'.cell? ⟨w.heap.size + 1 + 1 + 1 + 1, 0, none⟩ = some (.bool res) ∧ Below w.heap.size w V') := Lib.hid (fun r hr V' h => by subst hr; exact ⟨h.b4.cell 0, h.below⟩)
  rename_i Q1 K1 hK1 K0 hK0
  have REST1 : ¬ (0 < a3 ∧ 1 < a0) → ∀ x10 x11 x12 x13 x14 x15 x16 x17 : Value, K1 { tmps := (((.pointer (some ⟨vb, 0, none⟩) : Value) :: .string s :: .string top :: .agg #[.int .i64 (a0 : Int), .int .i64 (a1 : Int), .int .i64 (a2 : Int), .int .i64 (a3 : Int), .int .i64 (a4 : Int)] :: .pointer (some ⟨w.heap.size, 0, none⟩) :: .pointer (some ⟨w.heap.size + 1, 0, none⟩) :: .pointer (some ⟨w.heap.size + 1 + 1, 0, none⟩) :: .pointer (some ⟨w.heap.size + 1 + 1 + 1, 0, none⟩) :: .pointer (some ⟨w.heap.size + 1 + 1 + 1 + 1, 0, none⟩) :: undef :: x10 :: x11 :: x12 :: x13 :: x14 :: x15 :: x16 :: x17 :: undef :: undef :: undef :: undef :: undef :: undef :: undef :: undef :: undef :: undef :: undef :: undef :: undef :: undef :: undef :: undef :: undef :: undef :: undef :: undef :: undef :: undef :: undef :: undef :: undef :: undef :: undef :: undef :: undef :: undef :: undef :: undef :: undef :: undef :: undef :: undef :: undef :: undef :: undef :: undef :: undef :: undef :: undef :: undef :: undef :: []) : List Value).toArray, defers := [] } V := by
    intro hA x10 x11 x12 x13 x14 x15 x16 x17
    refine hK1 _ _ ?_
    clear hK0 K0 hK1
    gi_upto_region 3 with (fail)
    rename_i K2 hK2 K3 hK3
    by_cases he : s = top
    · subst he
      have k1 : (s.toList == s.toList) = true := by simp
      obtain ⟨d0, hb⟩ := HE.out true (by rw [← HR.out]; simp [fitsB]; omega) _ (HV.out.res true)
      have HB := Lib.hid hb
      clear hb hA
      gi_wp2_with (fail)
      exact ⟨.bool res, by simp [results, Tryz.results53, go_sem, d0], rfl, HB.out⟩
    · have k1 : (s.toList == top.toList) = false := toList_ne he
      have HN := Lib.hid (And.intro hA he)
      clear hA
      clear he
      gi_upto_region 5 with (fail)
      rename_i K5 hK5 K6 hK6
      have REST7 : ¬ (0 < a3 ∧ 1 < a0) → ¬ s = top → ¬ (0 < a1 ∨ (0 < a2 ∧ a2 + a4 < a0)) → ∀ x10 x11 x12 x13 x14 x15 x16 x17 x18 x19 x20 x21 x22 x23 x24 x25 x26 x27 x28 x29 x30 x31 x32 x33 x34 x35 x36 x37 x38 : Value, K5 { tmps := (((.pointer (some ⟨vb, 0, none⟩) : Value) :: .string s :: .string top :: .agg #[.int .i64 (a0 : Int), .int .i64 (a1 : Int), .int .i64 (a2 : Int), .int .i64 (a3 : Int), .int .i64 (a4 : Int)] :: .pointer (some ⟨w.heap.size, 0, none⟩) :: .pointer (some ⟨w.heap.size + 1, 0, none⟩) :: .pointer (some ⟨w.heap.size + 1 + 1, 0, none⟩) :: .pointer (some ⟨w.heap.size + 1 + 1 + 1, 0, none⟩) :: .pointer (some ⟨w.heap.size + 1 + 1 + 1 + 1, 0, none⟩) :: undef :: x10 :: x11 :: x12 :: x13 :: x14 :: x15 :: x16 :: x17 :: x18 :: x19 :: x20 :: x21 :: x22 :: x23 :: x24 :: x25 :: x26 :: x27 :: x28 :: x29 :: x30 :: x31 :: x32 :: x33 :: x34 :: x35 :: x36 :: x37 :: x38 :: undef :: undef :: undef :: undef :: undef :: undef :: undef :: undef :: undef :: undef :: undef :: undef :: undef :: undef :: undef :: undef :: undef :: undef :: undef :: undef :: undef :: undef :: undef :: undef :: []) : List Value).toArray, defers := [] } V := by
        intro q1 q2 q3 x10 x11 x12 x13 x14 x15 x16 x17 x18 x19 x20 x21 x22 x23 x24 x25 x26 x27 x28 x29 x30 x31 x32 x33 x34 x35 x36 x37 x38
        have hRU : upsB top.data.toList s.data.toList (hdOf pre) ⟨a0, a1, a2, a3, a4⟩ (upsL s.data.toList) = res := by
          have h9 := HR.out
          have e1 : decide (s.data.toList = top.data.toList) = false := by simp [data_ne q2]
          have e2 : (!(decide (0 < a3) && decide (1 < a0))) = true := by simp; omega
          have e3 : (!(decide (0 < a1) || (decide (0 < a2) && decide (a2 + a4 < a0)))) = true := by simp; omega
          simp only [fitsB, e1, e2, e3, Bool.true_and, Bool.false_or] at h9
          exact h9
        have HRU := Lib.hid (And.intro hRU (And.intro q2 (data_ne q2)))
        refine hK5 _ _ ?_
        clear hK5 K5 K6 hK6 k1 HN q1 q2 q3 hRU
        gi_wp2_with (fail)
        refine ⟨trivial, ?_⟩
        refine (Up_in _ s _).mono ?_
        rintro e w' ⟨rfl, rfl⟩
        gi_wp2_with (fail)
        rename_i K7 hK7
        obtain ⟨W0, hW0⟩ : ∃ W0, V.alloc (.cells #[.string s] 9) = W0 := ⟨_, rfl⟩
        have hb0 : Below V.heap.size V W0 := by rw [← hW0]; exact (Below.refl _ _).alloc (Nat.le_refl _) _
        have hF0 := HV.out.keep hb0
        have e0 : Blk W0 V.heap.size 9 #[.string s] := by rw [← hW0]; exact Blk.new _ _ _
        have hz0 : W0.heap.size = V.heap.size + 1 := by rw [← hW0]; simp
        have hzV := HV.out.size
        rw [hW0]
        clear hW0 u0 u1 u2 u30 u31 u32 u33 u34 u4 f4
        apply rangeN (gf := 88) (lb := #[.pointer (some ⟨V.heap.size, 0, none⟩)]) rfl (enters_of Tryz.func88 (by kernel_rfl) rfl)
          (Up1_N V.heap.size s HH.out.1 W0 e0) (by omega) (Below.refl _ _) (fun _ => rfl)
          (fun _ us W => FitBx w W vb s top a0 a1 a2 a3 a4 false ∧ ∀ u ∈ us, ¬ u = top.data.toList ∧ (u = s.data.toList ∨ (hdOf pre u).ns = 0))
          (fun _ c _ W => (c = .exit 0 ∧ res = true ∧ FitBx w W vb s top a0 a1 a2 a3 a4 false) ∨ (c = .ret ∧ FitBx w W vb s top a0 a1 a2 a3 a4 res))
          ?hI ?hIx ?h0
        case hI =>
          rintro X us A A' ⟨h1, h2⟩ ho
          exact ⟨h1.out (by omega) ho, h2⟩
        case hIx =>
          rintro X c us A A' (⟨h1, h2, h3⟩ | ⟨h1, h3⟩) ho
          · exact .inl ⟨h1, h2, h3.out (by omega) ho⟩
          · exact .inr ⟨h1, h3.out (by omega) ho⟩
        case h0 =>
          intro X W hW hX
          exact ⟨hF0.keep hW, fun u hu => absurd hu List.not_mem_nil⟩
        case hassign =>
          intro l x W K hK
          gi_wp2
          exact hK
        case hbody =>
          rintro l X us x W hWz ⟨h1, h2⟩ hus
          obtain ⟨xb, hxb⟩ : ∃ xb : ByteArray, (⟨x.toArray⟩ : ByteArray) = xb := ⟨_, rfl⟩
          have hxd : xb.data.toList = x := by rw [← hxb]
          have hxs : xb.size ≤ maxLen := by
            have e1 := ups_len (pre_mem hus)
            rw [← hxd, bsize, bsize] at e1
            have := HH.out.1; omega
          have hLW := HH.out.2.2.2.low h1.below
          have u0 := h1.b0.cell 0
          have u1 := h1.b1.cell 0
          have u2 := h1.b2.cell 0
          have u30 := h1.b3.cell 0
          have u34 := h1.b3.cell 4
          have u4 := h1.b4.cell 0
          have f4 := h1.b4.frozen 0
          have v3 : W.cell? ⟨vb, 3, none⟩ = some (.map (some nb)) := hLW.bx.cell 3
          obtain ⟨b0, b1, b2, b3, b4, hbt⟩ : ∃ b0 b1 b2 b3 b4 : Nat, hdOf pre x = ⟨b0, b1, b2, b3, b4⟩ := ⟨_, _, _, _, _, rfl⟩
          have hlk : (Instr.lookup 57 (.map (some nb)) (.string xb) false).run Tryz.prog W = .ok (.agg #[.int .i64 (b0 : Int), .int .i64 (b1 : Int), .int .i64 (b2 : Int), .int .i64 (b3 : Int), .int .i64 (b4 : Int)]) W := by
            have h9 := hLW.nm.look xb hxs
            rw [hxd, hbt] at h9
            exact h9
          have hfi : (Instr.field 111 (.agg #[.int .i64 (b0 : Int), .int .i64 (b1 : Int), .int .i64 (b2 : Int), .int .i64 (b3 : Int), .int .i64 (b4 : Int)]) 2).run Tryz.prog W = .ok (.int .i64 (b2 : Int)) W := by kernel_rfl
          have HB := Lib.hid (And.intro h1 (And.intro h2 (And.intro hus (And.intro hWz (And.intro hbt hxd)))))
          rw [hxb]
          clear h1 h2 hus hWz hbt hLW hxb hxs hF0 e0 hb0
          by_cases he : xb = top
          · have hx : x = top.data.toList := by rw [← hxd, he]
            subst he
            clear hxd
            have HX := Lib.hid hx
            clear hx hlk
            gi_wp2_with (fail)
            have hres : res = true := by
              rw [← HRU.out.1]
              unfold upsB
              rw [up_hit HB.out.2.2.1 HB.out.2.1 (.inl HX.out)]
              simp [HX.out]
            exact ⟨Keep.refl _ _ _, .inl ⟨rfl, hres, HB.out.1⟩⟩
          · have k1 : (xb.toList == top.toList) = false := toList_ne he
            have ht : ¬ x = top.data.toList := by rw [← hxd]; exact data_ne he
            have HT := Lib.hid ht
            clear he ht
            by_cases hes : xb = s
            · subst hes
              have HX := Lib.hid hxd
              clear hxd hlk
              gi_wp2_with (fail)
              refine ⟨Keep.refl _ _ _, HB.out.1, fun u hu => ?_⟩
              rcases List.mem_append.1 hu with h | h
              · exact HB.out.2.1 u h
              · rw [List.mem_singleton.1 h]; exact ⟨HT.out, .inl HX.out.symm⟩
            · have k2 : (xb.toList == s.toList) = false := toList_ne hes
              have k3 : (xb.toList != s.toList) = true := by simp [bne, k2]
              have hne : ¬ x = s.data.toList := by rw [← hxd]; exact data_ne hes
              have HN := Lib.hid hne
              clear hes hne hxd
              by_cases hb2 : 0 < b2
              · have k4 : (0 : Int) < (b2 : Int) := by omega
                have hup : upF top.data.toList s.data.toList (hdOf pre) (upsL s.data.toList) = some x := up_hit HB.out.2.2.1 HB.out.2.1 (.inr ⟨HN.out, by rw [HB.out.2.2.2.2.1]; exact hb2⟩)
                have hres : res = decide (a0 = a4) := by
                  rw [← HRU.out.1]
                  unfold upsB
                  rw [hup]
                  simp [HT.out]
                have HRS := Lib.hid hres
                clear hres hup
                have hpost : ∀ r, res = r → Keep W0.heap.size V.heap.size W (W.setCell ⟨w.heap.size + 1 + 1 + 1 + 1, 0, none⟩ (.bool r)) ∧ FitBx w (W.setCell ⟨w.heap.size + 1 + 1 + 1 + 1, 0, none⟩ (.bool r)) vb s top a0 a1 a2 a3 a4 res := fun r hr => by
                  subst hr
                  exact ⟨Keep.cell _ (by show w.heap.size + 1 + 1 + 1 + 1 < _; omega) (by show w.heap.size + 1 + 1 + 1 + 1 ≠ _; omega), HB.out.1.res _⟩
                have HP := Lib.hid hpost
                clear hpost
                by_cases h04 : a0 = a4
                · have k5 : ((a0 : Int) == (a4 : Int)) = true := by simp [h04]
                  obtain ⟨p1, p2⟩ := HP.out true (by rw [HRS.out]; simp [h04])
                  have HPP := Lib.hid (And.intro p1 p2)
                  clear p1 p2 h04 HP
                  gi_wp2_with (fail)
                  exact ⟨HPP.out.1, .inr ⟨rfl, HPP.out.2⟩⟩
                · have k5 : ((a0 : Int) == (a4 : Int)) = false := by simp; omega
                  obtain ⟨p1, p2⟩ := HP.out false (by rw [HRS.out]; simp [h04])
                  have HPP := Lib.hid (And.intro p1 p2)
                  clear p1 p2 h04 HP
                  gi_wp2_with (fail)
                  exact ⟨HPP.out.1, .inr ⟨rfl, HPP.out.2⟩⟩
              · have k4 : ¬ (0 : Int) < (b2 : Int) := by omega
                gi_wp2_with (fail)
                refine ⟨Keep.refl _ _ _, HB.out.1, fun u hu => ?_⟩
                rcases List.mem_append.1 hu with h | h
                · exact HB.out.2.1 u h
                · rw [List.mem_singleton.1 h]; exact ⟨HT.out, .inr (by rw [HB.out.2.2.2.2.1]; show b2 = 0; omega)⟩
        case hdone =>
          rintro D X W hD hD2 ⟨h1, h2⟩ hK
          have hres : res = true := by rw [← HRU.out.1]; unfold upsB; rw [up_none h2]
          have h3 := (h1.res true).put (D := D) (by omega) (.deferred none)
          have HF := Lib.hid (And.intro h1 (And.intro h3 (And.intro hres (And.intro hD hK))))
          have f4 := h1.b4.frozen 0
          have u4 := h1.b4.cell 0
          clear h1 h2 h3 hres hD hD2 hK hF0 e0 hb0
          gi_wp2_with (fail)
          obtain ⟨h1, h3, hres, hD, hK⟩ := HF.out
          have d0 := h3.b4.cell 0
          exact ⟨by simp, .inl ⟨_, _, rfl, run_takeDeferred ((Below.heap_setCell _ _ _ _ (show D ≠ w.heap.size + 1 + 1 + 1 + 1 by omega)).trans hK), .bool res, by simp [results, Tryz.results53, go_sem, d0, hres], rfl, h3.below⟩⟩
        case hstop =>
          rintro D X c us W hD hD2 hpre (⟨rfl, hres, h1⟩ | ⟨rfl, h1⟩) hK
          · have h3 := (h1.res true).put (D := D) (by omega) (.deferred none)
            have HF := Lib.hid (And.intro h1 (And.intro h3 (And.intro hres (And.intro hD hK))))
            have f4 := h1.b4.frozen 0
            have u4 := h1.b4.cell 0
            clear h1 h3 hres hD hD2 hK hF0 e0 hb0 hpre
            gi_wp2_with (fail)
            obtain ⟨h1, h3, hres, hD, hK⟩ := HF.out
            have d0 := h3.b4.cell 0
            exact ⟨by simp, .inl ⟨_, _, rfl, run_takeDeferred ((Below.heap_setCell _ _ _ _ (show D ≠ w.heap.size + 1 + 1 + 1 + 1 by omega)).trans hK), .bool res, by simp [results, Tryz.results53, go_sem, d0, hres], rfl, h3.below⟩⟩
          · have h3 := h1.put (D := D) (by omega) (.deferred none)
            have HF := Lib.hid (And.intro h1 (And.intro h3 (And.intro hD hK)))
            clear h1 h3 hD hD2 hK hF0 e0 hb0 hpre
            gi_wp2_with (fail)
            obtain ⟨h1, h3, hD, hK⟩ := HF.out
            have d0 := h3.b4.cell 0
            exact ⟨by simp, .inl ⟨_, _, rfl, run_takeDeferred hK, .bool res, by simp [results, Tryz.results53, go_sem, d0], rfl, h3.below⟩⟩
      clear hK5
      by_cases hs1 : 0 < a1
      · have k1 : (0 : Int) < (a1 : Int) := by omega
        obtain ⟨d0, hb⟩ := HE.out false (by rw [← HR.out]; simp [fitsB, data_ne HN.out.2, hs1]) _ (HV.out.res false)
        have HB := Lib.hid hb
        clear hb REST7
        gi_wp2_with (fail)
        exact ⟨.bool res, by simp [results, Tryz.results53, go_sem, d0], rfl, HB.out⟩
      · have k1 : ¬ ((0 : Int) < (a1 : Int)) := by omega
        by_cases hs2 : 0 < a2
        · have k2 : (0 : Int) < (a2 : Int) := by omega
          have kw : IntKind.i64.wrap ((a2 : Int) + (a4 : Int)) = ((a2 + a4 : Nat) : Int) := by rw [IntKind.wrap_i64]; have := HH.out.2.2.1; omega
          by_cases hs3 : a2 + a4 < a0
          · have k3 : ((a2 + a4 : Nat) : Int) < (a0 : Int) := by omega
            obtain ⟨d0, hb⟩ := HE.out false (by rw [← HR.out]; simp [fitsB, data_ne HN.out.2, hs2, hs3]) _ (HV.out.res false)
            have HB := Lib.hid hb
            clear hb REST7
            gi_wp2_with (fail)
            exact ⟨.bool res, by simp [results, Tryz.results53, go_sem, d0], rfl, HB.out⟩
          · have k3 : ¬ ((a2 + a4 : Nat) : Int) < (a0 : Int) := by omega
            have R7 := Lib.hid (REST7 HN.out.1 HN.out.2 (by omega))
            clear REST7
            gi_wp2_with (fail)
            exact R7.out _ _ _ _ _ _ _ _ _ _ _ _ _ _ _ _ _ _ _ _ _ _ _ _ _ _ _ _ _
        · have k2 : ¬ ((0 : Int) < (a2 : Int)) := by omega
          have R7 := Lib.hid (REST7 HN.out.1 HN.out.2 (by omega))
          clear REST7
          gi_wp2_with (fail)
          exact R7.out _ _ _ _ _ _ _ _ _ _ _ _ _ _ _ _ _ _ _ _ _ _ _ _ _ _ _ _ _
  clear hK1
  by_cases hA : 0 < a3 ∧ 1 < a0
  · have k1 : (0 : Int) < (a3 : Int) := by omega
    have k2 : (1 : Int) < (a0 : Int) := by omega
    obtain ⟨d0, hb⟩ := HE.out false (by rw [← HR.out]; simp [fitsB, hA]) _ (HV.out.res false)
    obtain ⟨k3, k4⟩ := hA
    have HB := Lib.hid hb
    clear hb REST1
    gi_wp2_with (fail)
    exact ⟨.bool res, by simp [results, Tryz.results53, go_sem, d0], rfl, HB.out⟩
  · have R1 := REST1 hA
    have HR1 := Lib.hid R1
    clear REST1 R1
    by_cases k1 : 0 < a3
    · have k2 : (0 : Int) < (a3 : Int) := by omega
      have k3 : ¬ ((1 : Int) < (a0 : Int)) := by omega
      have k4 : ¬ (1 < a0) := by omega
      clear hA
      gi_wp2_with (fail)
      exact HR1.out _ _ _ _ _ _ _ _
    · have k2 : ¬ ((0 : Int) < (a3 : Int)) := by omega
      clear hA
      gi_wp2_with (fail)
      exact HR1.out _ _ _ _ _ _ _ _
end Go.Proofs.YthnngndnpigjbaaGreat

namespace Go.Proofs.YthnngndnpigjbaaGreat
open Go.RowKit Go.Lib Go.Maps
attribute [local go_sem] Oper.semAt_some

theorem names_key {D : DataW Value} {F : Lit → Option Value} (hD : ∀ kl, Maps.has D kl = (F kl).isSome ∧ ∀ v, F kl = some v → ∀ z, D.atKey kl z = .held v) {kl : Lit} {v : Value} (hat : ∀ z, D.atKey kl z = .held v) : F kl = some v := by
  cases hF : F kl with
  | none =>
    have h1 : Maps.has D kl = false := by rw [(hD kl).1, hF]; rfl
    have h2 := hat .nil
    rw [atKey_of_not_has h1] at h2
    cases h2
  | some u =>
    have h3 := (hD kl).2 u hF .nil
    rw [hat] at h3
    injection h3 with h3
    rw [h3]
theorem strKey {key : Value} {kl : Lit} (h : keyOf Tryz.prog 9 key = some kl) : ∃ s : ByteArray, key = .string s ∧ kl = .string s.data.toList ∧ s.size ≤ maxLen := by
  have hk := Tryz.underlying9
  cases key <;> simp [keyOf, hk, mapKey] at h
  obtain ⟨hs, rfl⟩ := h
  exact ⟨_, rfl, rfl, hs⟩

set_option maxRecDepth 100000 in
set_option maxHeartbeats 4000000 in
theorem sound_any (vb sb nb : Nat) (z : ByteArray) (A : Option Addr) (len c m : Nat) (pre : List RRec) (hz : z.size ≤ 1000) (hpre : pre.length ≤ 1000) (hln : ∀ r ∈ pre, r.n.size ≤ 1000) (w : World) (hl : LkS w vb sb nb z A len c m pre) :
    Calls Tryz.prog 33 #[.pointer (some ⟨vb, 0, none⟩)] w fun e w' => e = .returned (.bool (soundB z.data.toList pre)) ∧ Below w.heap.size w w' := by
  obtain ⟨res, hres⟩ : ∃ res, soundB z.data.toList pre = res := ⟨_, rfl⟩
  rw [hres]
  obtain ⟨fn, hfn⟩ : ∃ fn : ByteArray, (⟨(foldB z.data.toList).toArray⟩ : ByteArray) = fn := ⟨_, rfl⟩
  have HFO := Lib.hid (fun W => Fold_any z (by omega) W)
  rw [hfn] at HFO
  have hfd : fn.data.toList = foldB z.data.toList := by rw [← hfn]
  have hfs : fn.size ≤ maxLen := by
    have e1 := congrArg List.length hfd
    rw [bsize, foldB_length, bsize] at e1
    unfold maxLen; omega
  obtain ⟨a0, a1, a2, a3, a4, hat⟩ : ∃ a0 a1 a2 a3 a4 : Nat, hdOf pre (foldB z.data.toList) = ⟨a0, a1, a2, a3, a4⟩ := ⟨_, _, _, _, _, rfl⟩
  have v0 : w.cell? ⟨vb, 0, none⟩ = some (.string z) := hl.bx.cell 0
  have HH := Lib.hid (And.intro hl (And.intro hres (And.intro hfd (And.intro hfs (And.intro hat hpre)))))
  have HLN : RowKit.Hid (∀ r ∈ pre, (foldB r.nb).length ≤ maxLen) := Lib.hid (fun r hr => by
    have h1 := hln r hr
    rw [foldB_length]
    have h2 : r.nb.length = r.n.size := bsize r.n
    unfold maxLen; omega)
  clear hl hres hfn hfd hfs hat hz hpre hln
  go_enter Tryz.func33, Tryz.ntmps33
  go_wp2_with (fail)
  with_reducible refine (HFO.out _).mono ?_
  rintro e w1 ⟨rfl, hb1⟩
  have hl1 := HH.out.1.low hb1
  have v3 : w1.cell? ⟨vb, 3, none⟩ = some (.map (some nb)) := hl1.bx.cell 3
  have hlk : (Instr.lookup 57 (.map (some nb)) (.string fn) false).run Tryz.prog w1 = .ok (.agg #[.int .i64 (a0 : Int), .int .i64 (a1 : Int), .int .i64 (a2 : Int), .int .i64 (a3 : Int), .int .i64 (a4 : Int)]) w1 := by
    have h9 := hl1.nm.look fn HH.out.2.2.2.1
    rw [HH.out.2.2.1, HH.out.2.2.2.2.1] at h9
    exact h9
  have H1 := Lib.hid (And.intro hb1 hl1)
  clear hb1 hl1 v0
  go_upto_region 3 with (fail)
  obtain ⟨W2, hW2⟩ : ∃ W2, w1.alloc (.cells #[.int .i64 (a0 : Int), .int .i64 (a1 : Int), .int .i64 (a2 : Int), .int .i64 (a3 : Int), .int .i64 (a4 : Int)] 111) = W2 := ⟨_, rfl⟩
  have hx2 : Blk W2 w1.heap.size 111 #[.int .i64 (a0 : Int), .int .i64 (a1 : Int), .int .i64 (a2 : Int), .int .i64 (a3 : Int), .int .i64 (a4 : Int)] := by rw [← hW2]; exact Blk.new _ _ _
  have hb2 : Below w.heap.size w W2 := by rw [← hW2]; exact H1.out.1.alloc H1.out.1.size _
  have hl2 := HH.out.1.low hb2
  have c1 := hx2.cell 1
  have c2 := hx2.cell 2
  have v3 : W2.cell? ⟨vb, 3, none⟩ = some (.map (some nb)) := hl2.bx.cell 3
  rw [hW2]
  have H2 := Lib.hid (And.intro hb2 hl2)
  clear hW2 hx2 hb2 hl2 hlk
  by_cases h1 : a1 = 1
  · have e1 : ((a1 : Int) == 1) = true := by simp [h1]
    have e1' : ((a1 : Int) != 1) = false := by simp [h1]
    by_cases h2 : a2 = 0
    · have e2 : ((a2 : Int) == 0) = true := by simp [h2]
      have hr : res = false := by rw [← HH.out.2.1]; simp [soundB, HH.out.2.2.2.2.1, h2]
      have HR := Lib.hid hr
      clear hr h1 h2
      go_wp2_with (fail)
      go_ret
      exact ⟨by rw [HR.out]; rfl, H2.out.1⟩
    · have e2 : ((a2 : Int) == 0) = false := by simp; omega
      have hall : res = pre.all fun r => fitsB (foldB z.data.toList) (foldB r.nb) (hdOf pre) (hdOf pre (foldB r.nb)) := by
        rw [← HH.out.2.1]; simp only [soundB, HH.out.2.2.2.2.1, h1]; simp [h2]
      have HA := Lib.hid hall
      clear hall h1 h2
      obtain ⟨F, ⟨D, hown, hD⟩, hF1, hF2⟩ := H2.out.2.nm
      have HD := Lib.hid (And.intro hD (And.intro hF1 hF2))
      clear hD hF1 hF2
      go_wp2_with (first
        | (at_range; refine wpList_range_own _ rfl _ 57 rfl 9 111 strZ_keyed Tryz.underlying57 _ nb m _ rfl hown ?_; intro w0 hrg0 hg0 hs0)
        | fail)
      go_frame
      obtain ⟨rb, hrb⟩ : ∃ rb, W2.heap.size = rb := ⟨_, rfl⟩
      rw [hrb] at hrg0 ⊢
      have hwr : w.heap.size ≤ rb := by rw [← hrb]; exact H2.out.1.size
      have hb0 : Below w.heap.size w w0 := ⟨hg0.os.trans H2.out.1.os, hg0.tape.trans H2.out.1.tape, hg0.output.trans H2.out.1.output, Nat.le_trans H2.out.1.size hg0.size, fun i hi => (hg0.block i (Nat.lt_of_lt_of_le hi H2.out.1.size) (by simp)).trans (H2.out.1.block i hi)⟩
      clear hg0 hs0 c1 c2 v3 e1 e1' e2 hown hrb
      go_loopw [32] (fun _ wr => ∃ (left : Lit → Bool) (cnt : Nat), wr.ranges Tryz.prog 9 rawR nb rb m D left cnt ∧ Below w.heap.size w wr ∧ ∀ s : Bs, s.length ≤ maxLen → (F (.string s)).isSome = true → left (.string s) = true ∨ fitsB fn.data.toList s (hdOf pre) (hdOf pre s) = true)
        (fun _ wr => wr.rangeLeft nb rb)
      case atStart =>
        refine ⟨_, _, hrg0, hb0, fun s hs h => .inl ?_⟩
        rw [(HD.out.1 _).1]; exact h
      case round =>
        obtain ⟨left, cnt, hrg, hbw, hall⟩ := hrel
        go_wp2_with (first
          | (at_next; refine wpList_next_ranges _ rfl _ rfl 9 strZ_keyed rawR (fun x : ByteArray => .string x) (fun v : Value => v) (fun key kl hk => by obtain ⟨x, hx, _⟩ := strKey hk; exact ⟨x, hx⟩) (fun v y _ => ⟨v, rfl⟩) nb rb m _ _ _ rfl hrg ?_ ?_)
          | fail)
        · intro _ hl0
          have hr : res = true := by
            rw [HA.out, List.all_eq_true]
            intro r hr
            have h1 : (foldB r.nb).length ≤ maxLen → (F (.string (foldB r.nb))).isSome = true := fun hle => by
              rw [HD.out.2.1 _ hle, if_neg]
              · rfl
              · have := cntR_pos (p := fun _ => true) hr rfl
                show ¬ cntR _ _ _ = 0
                omega
            have h2 : (foldB r.nb).length ≤ maxLen := HLN.out r hr
            rcases hall _ h2 (h1 h2) with h3 | h3
            · rw [hl0] at h3; cases h3
            · rw [HH.out.2.2.1] at h3; exact h3
          have HR := Lib.hid hr
          clear hr hall
          go_wp2_with (fail)
          go_ret
          exact ⟨by rw [HR.out]; rfl, hbw⟩
        · intro x cv kl yd yp w2 cnt2 hkey hlk hv hat hrg2 hlt hg2 hs2 hen
          obtain ⟨x', ex, rfl, hxs⟩ := strKey hkey
          injection ex with ex
          subst ex
          have hFx : F (.string x.data.toList) = some cv := names_key HD.out.1 (fun zd => by
            rw [hat zd]
            unfold rawR at hv
            injection hv with hv
            injection hv with hv _
            exact hv.symm)
          have hxl : x.data.toList.length ≤ maxLen := by rw [bsize]; exact hxs
          obtain ⟨b0, b1, b2, b3, b4, hbt⟩ : ∃ b0 b1 b2 b3 b4 : Nat, hdOf pre x.data.toList = ⟨b0, b1, b2, b3, b4⟩ := ⟨_, _, _, _, _, rfl⟩
          have hcv : cv = .agg #[.int .i64 (b0 : Int), .int .i64 (b1 : Int), .int .i64 (b2 : Int), .int .i64 (b3 : Int), .int .i64 (b4 : Int)] := by
            have h9 := HD.out.2.1 _ hxl
            rw [hFx, hbt] at h9
            dsimp only at h9
            split at h9
            · cases h9
            · injection h9
          obtain ⟨r0, hr0, hr0k⟩ := HD.out.2.2 _ _ hFx
          have hr0e : x.data.toList = foldB r0.nb := by injection hr0k
          subst hcv
          have hb2 : Below w.heap.size w w2 := ⟨hg2.os.trans hbw.os, hg2.tape.trans hbw.tape, hg2.output.trans hbw.output, Nat.le_trans hbw.size hg2.size, fun i hi => (hg2.block i (Nat.lt_of_lt_of_le hi hbw.size) (fun e => by have := Option.some.inj e; omega)).trans (hbw.block i hi)⟩
          have HX := Lib.hid (And.intro hFx (And.intro hxl (And.intro hbt (And.intro hxs (And.intro hr0 (And.intro hr0e (And.intro hb2 (And.intro hrg2 (And.intro hlt (And.intro hrg (And.intro hall hlk)))))))))))
          clear hFx hxl hbt hxs hr0 hr0e hr0k hb2 hrg2 hlt hrg hall hlk hkey hv hat hg2 hs2 hbw
          go_upto_region 8 with (fail)
          obtain ⟨W3, hW3⟩ : ∃ W3, w2.alloc (.cells #[.int .i64 (b0 : Int), .int .i64 (b1 : Int), .int .i64 (b2 : Int), .int .i64 (b3 : Int), .int .i64 (b4 : Int)] 111) = W3 := ⟨_, rfl⟩
          have hx3 : Blk W3 w2.heap.size 111 #[.int .i64 (b0 : Int), .int .i64 (b1 : Int), .int .i64 (b2 : Int), .int .i64 (b3 : Int), .int .i64 (b4 : Int)] := by rw [← hW3]; exact Blk.new _ _ _
          have hb3 : Below w2.heap.size w2 W3 := by rw [← hW3]; exact (Below.refl _ _).alloc (Nat.le_refl _) _
          rw [hW3]
          have c0 := hx3.cell 0
          have c1 := hx3.cell 1
          have c2 := hx3.cell 2
          have c3 := hx3.cell 3
          have c4 := hx3.cell 4
          have hbW3 : Below w.heap.size w W3 := HX.out.2.2.2.2.2.2.1.trans (hb3.mono HX.out.2.2.2.2.2.2.1.size)
          have HF := Lib.hid (fits_any vb sb nb z A len c m pre x fn ⟨b0, b1, b2, b3, b4⟩ HX.out.2.2.2.1 HH.out.2.2.2.1 (by
            have h9 := hd_bound pre x.data.toList
            rw [HX.out.2.2.1] at h9
            have := HH.out.2.2.2.2.2
            exact ⟨by have := h9.2.2.1; dsimp only at this ⊢; omega, by have := h9.2.2.2.2; dsimp only at this ⊢; omega⟩) W3 (HH.out.1.low hbW3))
          dsimp only [Hd.val] at HF
          have H3 := Lib.hid (And.intro hb3 hbW3)
          clear hb3 hbW3 hx3 hW3 hen
          cases hfit : fitsB fn.data.toList x.data.toList (hdOf pre) ⟨b0, b1, b2, b3, b4⟩ with
          | true =>
            rw [hfit] at HF
            have HFT := Lib.hid hfit
            clear hfit
            go_wp2_with (fail)
            with_reducible refine HF.out.mono ?_
            rintro e w4 ⟨rfl, hb4⟩
            have H4 := Lib.hid hb4
            clear hb4
            have hg4 : w2.grownBy w4 none := ⟨H4.out.os.trans H3.out.1.os, H4.out.tape.trans H3.out.1.tape, H4.out.output.trans H3.out.1.output, Nat.le_trans H3.out.1.size H4.out.size, fun i hi _ => (H4.out.block i (Nat.lt_of_lt_of_le hi H3.out.1.size)).trans (H3.out.1.block i hi)⟩
            obtain ⟨p1, p2, p3, p4, p5, p6, p7, p8, p9, p10, p11, p12⟩ := HX.out
            have hrg4 := p8.kept hg4 (by simp) (by simp)
            have HRG := Lib.hid hrg4
            have HBW := Lib.hid (H3.out.2.trans (H4.out.mono H3.out.2.size))
            have HALL : RowKit.Hid (∀ s : Bs, s.length ≤ maxLen → (F (.string s)).isSome = true → (left (.string s) && !(Lit.string s).sameKey (.string x.data.toList)) = true ∨ fitsB fn.data.toList s (hdOf pre) (hdOf pre s) = true) := Lib.hid (fun s hs hf => by
              by_cases hsx : s = x.data.toList
              · rw [hsx, p3]; exact .inr HFT.out
              · rcases p11 s hs hf with h | h
                · left
                  rw [h]
                  have : (Lit.string s).sameKey (.string x.data.toList) = false := Maps.sameKey_ne (fun e => hsx (by injection e))
                  rw [this]; rfl
                · exact .inr h)
            have HME : RowKit.Hid (w4.rangeLeft nb rb < wr.rangeLeft nb rb) := Lib.hid (by rw [hrg4.left_eq, p10.left_eq]; exact p9)
            clear hg4 hrg4 p1 p2 p3 p4 p5 p6 p7 p8 p9 p10 p11 p12
            go_wp2_with (fail)
            go_roundw
            case rel => exact ⟨_, cnt2, HRG.out, HBW.out, HALL.out⟩
            case measure => exact HME.out
          | false =>
            rw [hfit] at HF
            have hr : res = false := by
              rw [HA.out, List.all_eq_false]
              refine ⟨r0, HX.out.2.2.2.2.1, ?_⟩
              rw [← HX.out.2.2.2.2.2.1, ← HH.out.2.2.1, HX.out.2.2.1, hfit]
              simp
            have HR := Lib.hid hr
            clear hr hfit
            go_wp2_with (fail)
            with_reducible refine HF.out.mono ?_
            rintro e w4 ⟨rfl, hb4⟩
            have H4 := Lib.hid hb4
            clear hb4
            go_wp2_with (fail)
            go_ret
            exact ⟨by rw [HR.out]; rfl, H3.out.2.trans (H4.out.mono H3.out.2.size)⟩
  · have e1 : ((a1 : Int) == 1) = false := by simp; omega
    have e1' : ((a1 : Int) != 1) = true := by simp; omega
    have hr : res = false := by rw [← HH.out.2.1]; simp [soundB, HH.out.2.2.2.2.1, h1]
    have HR := Lib.hid hr
    clear hr h1
    go_wp2_with (fail)
    go_ret
    exact ⟨by rw [HR.out]; rfl, H2.out.1⟩
end Go.Proofs.YthnngndnpigjbaaGreat
