/- hardtacklaw43.lives. -/
import Derived.Test.YtjhhhkhcnohmiaaMinimQ
import Derived.Deep.RegionHeld3
namespace Go.Proofs.Ytjhhhkhcnohmiaa
open Go.RowKit Go.Lib

def nABC : ByteArray := ⟨#[1, 97, 1, 98, 1, 99, 0]⟩
def nBC : ByteArray := ⟨#[1, 98, 1, 99, 0]⟩
def nC : ByteArray := ⟨#[1, 99, 0]⟩
def nX : ByteArray := ⟨#[1, 120, 0]⟩
def nR : ByteArray := ⟨#[0]⟩
def qL : Qn := ⟨nABC, 1, 1⟩
def xL : Qn := ⟨nC, 2, 1⟩
def yL : Qn := ⟨nBC, 2, 1⟩
theorem wi1 : withinB qL.n.data.toList nR.data.toList = true := by decide +kernel
theorem de1 : depthN qL.n.data.toList nR.data.toList = 3 := by decide +kernel
theorem ab1 : above nABC 1 = nBC := by show (⟨_⟩ : ByteArray) = ⟨_⟩; congr 1
theorem ab2 : above nABC 2 = nC := by show (⟨_⟩ : ByteArray) = ⟨_⟩; congr 1
theorem nx1 : nextQ qL nR = (xL, 0) := by
  rw [next_within wi1, if_neg (by rw [de1]; decide), de1]
  show ((⟨above nABC 2, 2, 1⟩ : Qn), (0 : Int)) = _
  rw [ab2]; rfl
theorem st1 : stepsL qL nR = [xL, yL, qL] := by
  unfold stepsL
  rw [if_pos wi1, de1]
  show [(⟨above nABC 2, 2, 1⟩ : Qn), ⟨above nABC 1, 2, 1⟩] ++ [qL] = _
  rw [ab1, ab2]; rfl
theorem wi2 : withinB qL.n.data.toList nC.data.toList = true := by decide +kernel
theorem de2 : depthN qL.n.data.toList nC.data.toList = 2 := by decide +kernel
theorem wi3 : withinB qL.n.data.toList nBC.data.toList = true := by decide +kernel
theorem de3 : depthN qL.n.data.toList nBC.data.toList = 1 := by decide +kernel
theorem de4 : depthN nC.data.toList nABC.data.toList = -1 := by decide +kernel
theorem dp1 : deepQ qL nR nC = (yL, 0) := by
  unfold deepQ
  rw [if_neg (by decide +kernel), if_neg (by decide +kernel), next_within wi2, if_neg (by rw [de2]; decide), de2]
  show ((⟨above nABC 1, 2, 1⟩ : Qn), (0 : Int)) = _
  rw [ab1]; rfl
theorem dp2 : deepQ qL nR nBC = (qL, 0) := by
  unfold deepQ
  rw [if_neg (by decide +kernel), if_neg (by decide +kernel), next_within wi3, if_pos (by rw [de3]; decide)]
theorem nx2 : nextQ qL nX = (q0, 3) := by
  unfold nextQ
  rw [if_neg (by decide +kernel), if_pos (by decide +kernel)]
theorem nx3 : nextQ qL ⟨#[]⟩ = (q0, 2) := by
  unfold nextQ
  rw [if_pos (by decide +kernel)]

theorem kD12 {V W : World} {q x y z : Nat} {q0 q1 q2 x0 x1 x2 y0 y1 y2 z0 z1 z2 : Option Value} (H : W.cell? ⟨q, 0, none⟩ = q0 ∧ W.cell? ⟨q, 1, none⟩ = q1 ∧ W.cell? ⟨q, 2, none⟩ = q2 ∧ W.cell? ⟨x, 0, none⟩ = x0 ∧ W.cell? ⟨x, 1, none⟩ = x1 ∧ W.cell? ⟨x, 2, none⟩ = x2 ∧ W.cell? ⟨y, 0, none⟩ = y0 ∧ W.cell? ⟨y, 1, none⟩ = y1 ∧ W.cell? ⟨y, 2, none⟩ = y2 ∧ W.cell? ⟨z, 0, none⟩ = z0 ∧ W.cell? ⟨z, 1, none⟩ = z1 ∧ W.cell? ⟨z, 2, none⟩ = z2 ∧ V.heap.size ≤ W.heap.size ∧ Below V.heap.size V W) : W.drew.cell? ⟨q, 0, none⟩ = q0 ∧ W.drew.cell? ⟨q, 1, none⟩ = q1 ∧ W.drew.cell? ⟨q, 2, none⟩ = q2 ∧ W.drew.cell? ⟨x, 0, none⟩ = x0 ∧ W.drew.cell? ⟨x, 1, none⟩ = x1 ∧ W.drew.cell? ⟨x, 2, none⟩ = x2 ∧ W.drew.cell? ⟨y, 0, none⟩ = y0 ∧ W.drew.cell? ⟨y, 1, none⟩ = y1 ∧ W.drew.cell? ⟨y, 2, none⟩ = y2 ∧ W.drew.cell? ⟨z, 0, none⟩ = z0 ∧ W.drew.cell? ⟨z, 1, none⟩ = z1 ∧ W.drew.cell? ⟨z, 2, none⟩ = z2 ∧ V.heap.size ≤ W.drew.heap.size ∧ Below V.heap.size V W.drew := by
  obtain ⟨hq0, hq1, hq2, hx0, hx1, hx2, hy0, hy1, hy2, hz0, hz1, hz2, h1, h2⟩ := H
  exact ⟨hq0, hq1, hq2, hx0, hx1, hx2, hy0, hy1, hy2, hz0, hz1, hz2, h1, h2.drew⟩
theorem kC12 {V W w' : World} {q x y z : Nat} {q0 q1 q2 x0 x1 x2 y0 y1 y2 z0 z1 z2 : Option Value} (lq : q < V.heap.size) (lx : x < V.heap.size) (ly : y < V.heap.size) (lz : z < V.heap.size) (H : W.cell? ⟨q, 0, none⟩ = q0 ∧ W.cell? ⟨q, 1, none⟩ = q1 ∧ W.cell? ⟨q, 2, none⟩ = q2 ∧ W.cell? ⟨x, 0, none⟩ = x0 ∧ W.cell? ⟨x, 1, none⟩ = x1 ∧ W.cell? ⟨x, 2, none⟩ = x2 ∧ W.cell? ⟨y, 0, none⟩ = y0 ∧ W.cell? ⟨y, 1, none⟩ = y1 ∧ W.cell? ⟨y, 2, none⟩ = y2 ∧ W.cell? ⟨z, 0, none⟩ = z0 ∧ W.cell? ⟨z, 1, none⟩ = z1 ∧ W.cell? ⟨z, 2, none⟩ = z2 ∧ V.heap.size ≤ W.heap.size ∧ Below V.heap.size V W) (hw : Below W.heap.size W w') : w'.cell? ⟨q, 0, none⟩ = q0 ∧ w'.cell? ⟨q, 1, none⟩ = q1 ∧ w'.cell? ⟨q, 2, none⟩ = q2 ∧ w'.cell? ⟨x, 0, none⟩ = x0 ∧ w'.cell? ⟨x, 1, none⟩ = x1 ∧ w'.cell? ⟨x, 2, none⟩ = x2 ∧ w'.cell? ⟨y, 0, none⟩ = y0 ∧ w'.cell? ⟨y, 1, none⟩ = y1 ∧ w'.cell? ⟨y, 2, none⟩ = y2 ∧ w'.cell? ⟨z, 0, none⟩ = z0 ∧ w'.cell? ⟨z, 1, none⟩ = z1 ∧ w'.cell? ⟨z, 2, none⟩ = z2 ∧ V.heap.size ≤ w'.heap.size ∧ Below V.heap.size V w' := by
  obtain ⟨hq0, hq1, hq2, hx0, hx1, hx2, hy0, hy1, hy2, hz0, hz1, hz2, h1, h2⟩ := H
  exact ⟨(hw.cell (p := ⟨q, 0, none⟩) (Nat.lt_of_lt_of_le lq h1)).trans hq0, (hw.cell (p := ⟨q, 1, none⟩) (Nat.lt_of_lt_of_le lq h1)).trans hq1, (hw.cell (p := ⟨q, 2, none⟩) (Nat.lt_of_lt_of_le lq h1)).trans hq2, (hw.cell (p := ⟨x, 0, none⟩) (Nat.lt_of_lt_of_le lx h1)).trans hx0, (hw.cell (p := ⟨x, 1, none⟩) (Nat.lt_of_lt_of_le lx h1)).trans hx1, (hw.cell (p := ⟨x, 2, none⟩) (Nat.lt_of_lt_of_le lx h1)).trans hx2, (hw.cell (p := ⟨y, 0, none⟩) (Nat.lt_of_lt_of_le ly h1)).trans hy0, (hw.cell (p := ⟨y, 1, none⟩) (Nat.lt_of_lt_of_le ly h1)).trans hy1, (hw.cell (p := ⟨y, 2, none⟩) (Nat.lt_of_lt_of_le ly h1)).trans hy2, (hw.cell (p := ⟨z, 0, none⟩) (Nat.lt_of_lt_of_le lz h1)).trans hz0, (hw.cell (p := ⟨z, 1, none⟩) (Nat.lt_of_lt_of_le lz h1)).trans hz1, (hw.cell (p := ⟨z, 2, none⟩) (Nat.lt_of_lt_of_le lz h1)).trans hz2, Nat.le_trans h1 hw.size, h2.trans (hw.mono h1)⟩
theorem last14 {a0 a1 a2 a3 a4 a5 a6 a7 a8 a9 a10 a11 a12 a13 : Prop} (H : a0 ∧ a1 ∧ a2 ∧ a3 ∧ a4 ∧ a5 ∧ a6 ∧ a7 ∧ a8 ∧ a9 ∧ a10 ∧ a11 ∧ a12 ∧ a13) : a13 := H.2.2.2.2.2.2.2.2.2.2.2.2.2


theorem cNx1 (w : World) : Calls Try.prog 57 #[.agg #[.string nABC, .int .u16 1, .int .u16 1], .string ⟨#[0]⟩] w fun e w' => e = .returned (.tuple #[.agg #[.string nC, .int .u16 2, .int .u16 1], .int .i64 0]) ∧ Below w.heap.size w w' := by
  have := mNext_any qL nR (by decide) (by decide) w
  rw [nx1] at this
  exact this
theorem cDp1 (w : World) : Calls Try.prog 58 #[.agg #[.string nABC, .int .u16 1, .int .u16 1], .string ⟨#[0]⟩, .string nC] w fun e w' => e = .returned (.tuple #[.agg #[.string nBC, .int .u16 2, .int .u16 1], .int .i64 0]) ∧ Below w.heap.size w w' := by
  have := mDeeper_any qL nR nC (by decide) (by decide) (by decide) w
  rw [dp1] at this
  exact this
theorem cDp2 (w : World) : Calls Try.prog 58 #[.agg #[.string nABC, .int .u16 1, .int .u16 1], .string ⟨#[0]⟩, .string nBC] w fun e w' => e = .returned (.tuple #[.agg #[.string nABC, .int .u16 1, .int .u16 1], .int .i64 0]) ∧ Below w.heap.size w w' := by
  have := mDeeper_any qL nR nBC (by decide) (by decide) (by decide) w
  rw [dp2] at this
  exact this
theorem cNx2 (w : World) : Calls Try.prog 57 #[.agg #[.string nABC, .int .u16 1, .int .u16 1], .string ⟨#[1, 120, 0]⟩] w fun e w' => e = .returned (.tuple #[.agg #[.string ⟨#[]⟩, .int .u16 0, .int .u16 0], .int .i64 3]) ∧ Below w.heap.size w w' := by
  have := mNext_any qL nX (by decide) (by decide) w
  rw [nx2] at this
  exact this
theorem cNx3 (w : World) : Calls Try.prog 57 #[.agg #[.string nABC, .int .u16 1, .int .u16 1], .string ⟨#[]⟩] w fun e w' => e = .returned (.tuple #[.agg #[.string ⟨#[]⟩, .int .u16 0, .int .u16 0], .int .i64 2]) ∧ Below w.heap.size w w' := by
  have := mNext_any qL ⟨#[]⟩ (by decide) (by decide) w
  rw [nx3] at this
  exact this
theorem cSt (w : World) : Calls Try.prog 29 #[.agg #[.string nABC, .int .u16 1, .int .u16 1], .string ⟨#[0]⟩] w fun e w' => ∃ A c, e = .returned (.slice A 3 c) ∧ QTab w' A [xL, yL, qL] ∧ Below w.heap.size w w' := by
  have := Steps_any qL nR (by decide) (by decide) w
  rw [st1] at this
  refine this.mono ?_
  rintro e w' ⟨A, c, he, hs, hb⟩
  exact ⟨A, c, he, qtab_of_sl (c := c) hs, hb⟩
theorem cT1 (w : World) : Calls Try.prog 30 #[.agg #[.string nC, .int .u16 2, .int .u16 1], .agg #[.string nABC, .int .u16 1, .int .u16 1]] w fun e w' => e = .returned (.int .i64 2) ∧ Below w.heap.size w w' := by
  have := mTells_any xL qL (by decide) (by decide) w
  rw [show depthN qL.n.data.toList xL.n.data.toList = 2 from de2] at this
  exact this
theorem cT2 (w : World) : Calls Try.prog 30 #[.agg #[.string nABC, .int .u16 1, .int .u16 1], .agg #[.string nC, .int .u16 2, .int .u16 1]] w fun e w' => e = .returned (.int .i64 (-1)) ∧ Below w.heap.size w w' := by
  have := mTells_any qL xL (by decide) (by decide) w
  rw [show depthN xL.n.data.toList qL.n.data.toList = -1 from de4] at this
  exact this
theorem cSm {A : Option Addr} {c : Nat} {w : World} {g : Nat} (hA : QTab w A [xL, yL, qL]) (hB : Blk w g 39 #[.string nC, .int .u16 2, .int .u16 1, .string nBC, .int .u16 2, .int .u16 1, .string nABC, .int .u16 1, .int .u16 1]) : Calls Try.prog 59 #[.slice A 3 c, .slice (some ⟨g, 0, none⟩) 3 3] w fun e w' => e = .returned (.bool true) ∧ Below w.heap.size w w' := by
  refine sameQ_any [xL, yL, qL] A _ c 3 w hA (fun _ => ⟨g, rfl, hB.lt, fun j e he i v hv => ?_⟩) (by decide)
  rw [hB.cell]
  match j, he with
  | 0, he =>
    cases he
    match i, hv with
    | 0, hv => exact hv
    | 1, hv => exact hv
    | 2, hv => exact hv
    | i + 3, hv => simp [Qn.vs] at hv
  | 1, he =>
    cases he
    match i, hv with
    | 0, hv => exact hv
    | 1, hv => exact hv
    | 2, hv => exact hv
    | i + 3, hv => simp [Qn.vs] at hv
  | 2, he =>
    cases he
    match i, hv with
    | 0, hv => exact hv
    | 1, hv => exact hv
    | 2, hv => exact hv
    | i + 3, hv => simp [Qn.vs] at hv
  | j + 3, he => simp at he

set_option maxHeartbeats 8000000 in
set_option maxRecDepth 100000 in
theorem lives43 (w : World) : Calls Try.prog 28 #[] w fun e w' => e = .returned (.bool true) ∧ Below w.heap.size w w' := by
  have B0 := Lib.hid (Blk.new w 39 #[.string nABC, .int .u16 1, .int .u16 1])
  have L0 := Lib.hid ((Below.refl w.heap.size w).alloc (Nat.le_refl _) (.cells #[.string nABC, .int .u16 1, .int .u16 1] 39))
  go_enter Try.func28, Try.ntmps28
  go_wp2_with (fail)
  refine (cNx1 _).mono ?_
  rintro e w1 ⟨rfl, hb⟩
  have B1q := Lib.hid (((B0.out).below hb (B0.out).lt).alloc (.cells #[.string nC, .int .u16 2, .int .u16 1] 39))
  have B1x := Lib.hid (Blk.new w1 39 #[.string nC, .int .u16 2, .int .u16 1])
  have L1 := Lib.hid (((L0.out).trans (hb.mono (L0.out).size)).alloc (by have := (L0.out).size; have := hb.size; simp at *; omega) (.cells #[.string nC, .int .u16 2, .int .u16 1] 39))
  have c1q0 : w1.cell? ⟨w.heap.size, 0, none⟩ = some (.string nABC) := ((B0.out).below hb (B0.out).lt).cell 0
  have c1q1 : w1.cell? ⟨w.heap.size, 1, none⟩ = some (.int .u16 1) := ((B0.out).below hb (B0.out).lt).cell 1
  have c1q2 : w1.cell? ⟨w.heap.size, 2, none⟩ = some (.int .u16 1) := ((B0.out).below hb (B0.out).lt).cell 2
  have l1q : w.heap.size < w1.heap.size := ((B0.out).below hb (B0.out).lt).lt
  clear hb
  go_wp2_with (fail)
  refine (cDp1 _).mono ?_
  rintro e w2 ⟨rfl, hb⟩
  have B2q := Lib.hid (((B1q.out).below hb (B1q.out).lt).alloc (.cells #[.string nBC, .int .u16 2, .int .u16 1] 39))
  have B2x := Lib.hid (((B1x.out).below hb (B1x.out).lt).alloc (.cells #[.string nBC, .int .u16 2, .int .u16 1] 39))
  have B2y := Lib.hid (Blk.new w2 39 #[.string nBC, .int .u16 2, .int .u16 1])
  have L2 := Lib.hid (((L1.out).trans (hb.mono (L1.out).size)).alloc (by have := (L1.out).size; have := hb.size; simp at *; omega) (.cells #[.string nBC, .int .u16 2, .int .u16 1] 39))
  have c2q0 : w2.cell? ⟨w.heap.size, 0, none⟩ = some (.string nABC) := ((B1q.out).below hb (B1q.out).lt).cell 0
  have c2q1 : w2.cell? ⟨w.heap.size, 1, none⟩ = some (.int .u16 1) := ((B1q.out).below hb (B1q.out).lt).cell 1
  have c2q2 : w2.cell? ⟨w.heap.size, 2, none⟩ = some (.int .u16 1) := ((B1q.out).below hb (B1q.out).lt).cell 2
  have l2q : w.heap.size < w2.heap.size := ((B1q.out).below hb (B1q.out).lt).lt
  have c2x0 : w2.cell? ⟨w1.heap.size, 0, none⟩ = some (.string nC) := ((B1x.out).below hb (B1x.out).lt).cell 0
  have c2x1 : w2.cell? ⟨w1.heap.size, 1, none⟩ = some (.int .u16 2) := ((B1x.out).below hb (B1x.out).lt).cell 1
  have c2x2 : w2.cell? ⟨w1.heap.size, 2, none⟩ = some (.int .u16 1) := ((B1x.out).below hb (B1x.out).lt).cell 2
  have l2x : w1.heap.size < w2.heap.size := ((B1x.out).below hb (B1x.out).lt).lt
  clear hb
  clear c1q0 c1q1 c1q2 l1q
  go_wp2_with (fail)
  refine (cDp2 _).mono ?_
  rintro e w3 ⟨rfl, hb⟩
  have B3q := Lib.hid (((B2q.out).below hb (B2q.out).lt).alloc (.cells #[.string nABC, .int .u16 1, .int .u16 1] 39))
  have B3x := Lib.hid (((B2x.out).below hb (B2x.out).lt).alloc (.cells #[.string nABC, .int .u16 1, .int .u16 1] 39))
  have B3y := Lib.hid (((B2y.out).below hb (B2y.out).lt).alloc (.cells #[.string nABC, .int .u16 1, .int .u16 1] 39))
  have B3z := Lib.hid (Blk.new w3 39 #[.string nABC, .int .u16 1, .int .u16 1])
  have L3 := Lib.hid (((L2.out).trans (hb.mono (L2.out).size)).alloc (by have := (L2.out).size; have := hb.size; simp at *; omega) (.cells #[.string nABC, .int .u16 1, .int .u16 1] 39))
  have c3q0 : w3.cell? ⟨w.heap.size, 0, none⟩ = some (.string nABC) := ((B2q.out).below hb (B2q.out).lt).cell 0
  have c3q1 : w3.cell? ⟨w.heap.size, 1, none⟩ = some (.int .u16 1) := ((B2q.out).below hb (B2q.out).lt).cell 1
  have c3q2 : w3.cell? ⟨w.heap.size, 2, none⟩ = some (.int .u16 1) := ((B2q.out).below hb (B2q.out).lt).cell 2
  have l3q : w.heap.size < w3.heap.size := ((B2q.out).below hb (B2q.out).lt).lt
  have c3x0 : w3.cell? ⟨w1.heap.size, 0, none⟩ = some (.string nC) := ((B2x.out).below hb (B2x.out).lt).cell 0
  have c3x1 : w3.cell? ⟨w1.heap.size, 1, none⟩ = some (.int .u16 2) := ((B2x.out).below hb (B2x.out).lt).cell 1
  have c3x2 : w3.cell? ⟨w1.heap.size, 2, none⟩ = some (.int .u16 1) := ((B2x.out).below hb (B2x.out).lt).cell 2
  have l3x : w1.heap.size < w3.heap.size := ((B2x.out).below hb (B2x.out).lt).lt
  have c3y0 : w3.cell? ⟨w2.heap.size, 0, none⟩ = some (.string nBC) := ((B2y.out).below hb (B2y.out).lt).cell 0
  have c3y1 : w3.cell? ⟨w2.heap.size, 1, none⟩ = some (.int .u16 2) := ((B2y.out).below hb (B2y.out).lt).cell 1
  have c3y2 : w3.cell? ⟨w2.heap.size, 2, none⟩ = some (.int .u16 1) := ((B2y.out).below hb (B2y.out).lt).cell 2
  have l3y : w2.heap.size < w3.heap.size := ((B2y.out).below hb (B2y.out).lt).lt
  clear hb
  clear c2q0 c2q1 c2q2 l2q
  clear c2x0 c2x1 c2x2 l2x
  go_wp2_with (fail)
  refine (cNx2 _).mono ?_
  rintro e w4 ⟨rfl, hb⟩
  have B4q := Lib.hid (((B3q.out).below hb (B3q.out).lt).alloc (.cells #[.string ⟨#[]⟩, .int .u16 0, .int .u16 0] 39))
  have B4x := Lib.hid (((B3x.out).below hb (B3x.out).lt).alloc (.cells #[.string ⟨#[]⟩, .int .u16 0, .int .u16 0] 39))
  have B4y := Lib.hid (((B3y.out).below hb (B3y.out).lt).alloc (.cells #[.string ⟨#[]⟩, .int .u16 0, .int .u16 0] 39))
  have B4z := Lib.hid (((B3z.out).below hb (B3z.out).lt).alloc (.cells #[.string ⟨#[]⟩, .int .u16 0, .int .u16 0] 39))
  have L4 := Lib.hid (((L3.out).trans (hb.mono (L3.out).size)).alloc (by have := (L3.out).size; have := hb.size; simp at *; omega) (.cells #[.string ⟨#[]⟩, .int .u16 0, .int .u16 0] 39))
  have c4q0 : w4.cell? ⟨w.heap.size, 0, none⟩ = some (.string nABC) := ((B3q.out).below hb (B3q.out).lt).cell 0
  have c4q1 : w4.cell? ⟨w.heap.size, 1, none⟩ = some (.int .u16 1) := ((B3q.out).below hb (B3q.out).lt).cell 1
  have c4q2 : w4.cell? ⟨w.heap.size, 2, none⟩ = some (.int .u16 1) := ((B3q.out).below hb (B3q.out).lt).cell 2
  have l4q : w.heap.size < w4.heap.size := ((B3q.out).below hb (B3q.out).lt).lt
  have c4x0 : w4.cell? ⟨w1.heap.size, 0, none⟩ = some (.string nC) := ((B3x.out).below hb (B3x.out).lt).cell 0
  have c4x1 : w4.cell? ⟨w1.heap.size, 1, none⟩ = some (.int .u16 2) := ((B3x.out).below hb (B3x.out).lt).cell 1
  have c4x2 : w4.cell? ⟨w1.heap.size, 2, none⟩ = some (.int .u16 1) := ((B3x.out).below hb (B3x.out).lt).cell 2
  have l4x : w1.heap.size < w4.heap.size := ((B3x.out).below hb (B3x.out).lt).lt
  have c4y0 : w4.cell? ⟨w2.heap.size, 0, none⟩ = some (.string nBC) := ((B3y.out).below hb (B3y.out).lt).cell 0
  have c4y1 : w4.cell? ⟨w2.heap.size, 1, none⟩ = some (.int .u16 2) := ((B3y.out).below hb (B3y.out).lt).cell 1
  have c4y2 : w4.cell? ⟨w2.heap.size, 2, none⟩ = some (.int .u16 1) := ((B3y.out).below hb (B3y.out).lt).cell 2
  have l4y : w2.heap.size < w4.heap.size := ((B3y.out).below hb (B3y.out).lt).lt
  have c4z0 : w4.cell? ⟨w3.heap.size, 0, none⟩ = some (.string nABC) := ((B3z.out).below hb (B3z.out).lt).cell 0
  have c4z1 : w4.cell? ⟨w3.heap.size, 1, none⟩ = some (.int .u16 1) := ((B3z.out).below hb (B3z.out).lt).cell 1
  have c4z2 : w4.cell? ⟨w3.heap.size, 2, none⟩ = some (.int .u16 1) := ((B3z.out).below hb (B3z.out).lt).cell 2
  have l4z : w3.heap.size < w4.heap.size := ((B3z.out).below hb (B3z.out).lt).lt
  clear hb
  clear c3q0 c3q1 c3q2 l3q
  clear c3x0 c3x1 c3x2 l3x
  clear c3y0 c3y1 c3y2 l3y
  go_wp2_with (fail)
  refine (cNx3 _).mono ?_
  rintro e w5 ⟨rfl, hb⟩
  have B5q := Lib.hid (((B4q.out).below hb (B4q.out).lt).alloc (.cells #[.string ⟨#[]⟩, .int .u16 0, .int .u16 0] 39))
  have B5x := Lib.hid (((B4x.out).below hb (B4x.out).lt).alloc (.cells #[.string ⟨#[]⟩, .int .u16 0, .int .u16 0] 39))
  have B5y := Lib.hid (((B4y.out).below hb (B4y.out).lt).alloc (.cells #[.string ⟨#[]⟩, .int .u16 0, .int .u16 0] 39))
  have B5z := Lib.hid (((B4z.out).below hb (B4z.out).lt).alloc (.cells #[.string ⟨#[]⟩, .int .u16 0, .int .u16 0] 39))
  have L5 := Lib.hid (((L4.out).trans (hb.mono (L4.out).size)).alloc (by have := (L4.out).size; have := hb.size; simp at *; omega) (.cells #[.string ⟨#[]⟩, .int .u16 0, .int .u16 0] 39))
  have c5q0 : w5.cell? ⟨w.heap.size, 0, none⟩ = some (.string nABC) := ((B4q.out).below hb (B4q.out).lt).cell 0
  have c5q1 : w5.cell? ⟨w.heap.size, 1, none⟩ = some (.int .u16 1) := ((B4q.out).below hb (B4q.out).lt).cell 1
  have c5q2 : w5.cell? ⟨w.heap.size, 2, none⟩ = some (.int .u16 1) := ((B4q.out).below hb (B4q.out).lt).cell 2
  have l5q : w.heap.size < w5.heap.size := ((B4q.out).below hb (B4q.out).lt).lt
  have c5x0 : w5.cell? ⟨w1.heap.size, 0, none⟩ = some (.string nC) := ((B4x.out).below hb (B4x.out).lt).cell 0
  have c5x1 : w5.cell? ⟨w1.heap.size, 1, none⟩ = some (.int .u16 2) := ((B4x.out).below hb (B4x.out).lt).cell 1
  have c5x2 : w5.cell? ⟨w1.heap.size, 2, none⟩ = some (.int .u16 1) := ((B4x.out).below hb (B4x.out).lt).cell 2
  have l5x : w1.heap.size < w5.heap.size := ((B4x.out).below hb (B4x.out).lt).lt
  have c5y0 : w5.cell? ⟨w2.heap.size, 0, none⟩ = some (.string nBC) := ((B4y.out).below hb (B4y.out).lt).cell 0
  have c5y1 : w5.cell? ⟨w2.heap.size, 1, none⟩ = some (.int .u16 2) := ((B4y.out).below hb (B4y.out).lt).cell 1
  have c5y2 : w5.cell? ⟨w2.heap.size, 2, none⟩ = some (.int .u16 1) := ((B4y.out).below hb (B4y.out).lt).cell 2
  have l5y : w2.heap.size < w5.heap.size := ((B4y.out).below hb (B4y.out).lt).lt
  have c5z0 : w5.cell? ⟨w3.heap.size, 0, none⟩ = some (.string nABC) := ((B4z.out).below hb (B4z.out).lt).cell 0
  have c5z1 : w5.cell? ⟨w3.heap.size, 1, none⟩ = some (.int .u16 1) := ((B4z.out).below hb (B4z.out).lt).cell 1
  have c5z2 : w5.cell? ⟨w3.heap.size, 2, none⟩ = some (.int .u16 1) := ((B4z.out).below hb (B4z.out).lt).cell 2
  have l5z : w3.heap.size < w5.heap.size := ((B4z.out).below hb (B4z.out).lt).lt
  clear hb
  clear c4q0 c4q1 c4q2 l4q
  clear c4x0 c4x1 c4x2 l4x
  clear c4y0 c4y1 c4y2 l4y
  clear c4z0 c4z1 c4z2 l4z
  go_wp2_with (fail)
  generalize hV : w5.alloc (.cells #[.string ⟨#[]⟩, .int .u16 0, .int .u16 0] 39) = V
  have F0 : V.cell? ⟨w.heap.size, 0, none⟩ = some (.string nABC) := by rw [← hV]; exact B5q.out.cell 0
  have F1 : V.cell? ⟨w.heap.size, 1, none⟩ = some (.int .u16 1) := by rw [← hV]; exact B5q.out.cell 1
  have F2 : V.cell? ⟨w.heap.size, 2, none⟩ = some (.int .u16 1) := by rw [← hV]; exact B5q.out.cell 2
  have F3 : V.cell? ⟨w1.heap.size, 0, none⟩ = some (.string nC) := by rw [← hV]; exact B5x.out.cell 0
  have F4 : V.cell? ⟨w1.heap.size, 1, none⟩ = some (.int .u16 2) := by rw [← hV]; exact B5x.out.cell 1
  have F5 : V.cell? ⟨w1.heap.size, 2, none⟩ = some (.int .u16 1) := by rw [← hV]; exact B5x.out.cell 2
  have F6 : V.cell? ⟨w2.heap.size, 0, none⟩ = some (.string nBC) := by rw [← hV]; exact B5y.out.cell 0
  have F7 : V.cell? ⟨w2.heap.size, 1, none⟩ = some (.int .u16 2) := by rw [← hV]; exact B5y.out.cell 1
  have F8 : V.cell? ⟨w2.heap.size, 2, none⟩ = some (.int .u16 1) := by rw [← hV]; exact B5y.out.cell 2
  have F9 : V.cell? ⟨w3.heap.size, 0, none⟩ = some (.string nABC) := by rw [← hV]; exact B5z.out.cell 0
  have F10 : V.cell? ⟨w3.heap.size, 1, none⟩ = some (.int .u16 1) := by rw [← hV]; exact B5z.out.cell 1
  have F11 : V.cell? ⟨w3.heap.size, 2, none⟩ = some (.int .u16 1) := by rw [← hV]; exact B5z.out.cell 2
  have lq : w.heap.size < V.heap.size := by rw [← hV]; exact (B5q.out).lt
  have lx : w1.heap.size < V.heap.size := by rw [← hV]; exact (B5x.out).lt
  have ly : w2.heap.size < V.heap.size := by rw [← hV]; exact (B5y.out).lt
  have lz : w3.heap.size < V.heap.size := by rw [← hV]; exact (B5z.out).lt
  have HL := Lib.hid (show Below w.heap.size w V by rw [← hV]; exact L5.out)
  clear hV
  clear c5q0 c5q1 c5q2 l5q
  clear c5x0 c5x1 c5x2 l5x
  clear c5y0 c5y1 c5y2 l5y
  clear c5z0 c5z1 c5z2 l5z
  have hrefl : Below V.heap.size V V := Below.refl _ _
  have e1 : ∀ W, (binOp .eql 39 (.agg #[.string nC, .int .u16 2, .int .u16 1]) (.agg #[.string ⟨#[1, 99, 0]⟩, .int .u16 2, .int .u16 1])).run Try.prog W = .ok (.bool true) W := fun W => eq_q nC 2 1 W
  have e2 : ∀ W, (binOp .eql 39 (.agg #[.string nABC, .int .u16 1, .int .u16 1]) (.agg #[.string nABC, .int .u16 1, .int .u16 1])).run Try.prog W = .ok (.bool true) W := fun W => eq_q nABC 1 1 W
  have e3 : (nBC.toList == [1, 98, 1, 99, 0]) = true := by rw [ByteArray.toList_eq]; decide
  refine wp_region_held_drew (S := (fun w' => w'.cell? ⟨w.heap.size, 0, none⟩ = some (.string nABC) ∧ w'.cell? ⟨w.heap.size, 1, none⟩ = some (.int .u16 1) ∧ w'.cell? ⟨w.heap.size, 2, none⟩ = some (.int .u16 1) ∧ w'.cell? ⟨w1.heap.size, 0, none⟩ = some (.string nC) ∧ w'.cell? ⟨w1.heap.size, 1, none⟩ = some (.int .u16 2) ∧ w'.cell? ⟨w1.heap.size, 2, none⟩ = some (.int .u16 1) ∧ w'.cell? ⟨w2.heap.size, 0, none⟩ = some (.string nBC) ∧ w'.cell? ⟨w2.heap.size, 1, none⟩ = some (.int .u16 2) ∧ w'.cell? ⟨w2.heap.size, 2, none⟩ = some (.int .u16 1) ∧ w'.cell? ⟨w3.heap.size, 0, none⟩ = some (.string nABC) ∧ w'.cell? ⟨w3.heap.size, 1, none⟩ = some (.int .u16 1) ∧ w'.cell? ⟨w3.heap.size, 2, none⟩ = some (.int .u16 1) ∧ V.heap.size ≤ w'.heap.size ∧ Below V.heap.size V w')) (by kernel_rfl) ?_ (fun hHeld0 => ?_)
  · exact kD12 ⟨F0, F1, F2, F3, F4, F5, F6, F7, F8, F9, F10, F11, Nat.le_refl _, hrefl⟩
  refine wpAnyH_take (i := 0) (v := .agg #[.string nC, .int .u16 2, .int .u16 1]) rfl (by kernel_rfl) (by kernel_rfl) (by kernel_rfl) (fun _ _ _ h => h) (Or.inl ⟨by rfl, ?_⟩) (by assumption) ?_
  · intro w hSw; (try dsimp only at hSw); go_simp
  try simp only [List.getElem_toArray, List.getElem_cons_zero, List.getElem_cons_succ, Act.put, List.setIfInBounds_toArray, List.set_cons_zero, List.set_cons_succ]
  refine wpAnyH_take (i := 1) (v := .agg #[.string ⟨#[1, 99, 0]⟩, .int .u16 2, .int .u16 1]) rfl (by kernel_rfl) (by kernel_rfl) (by kernel_rfl) (fun _ _ _ h => h) (Or.inl ⟨by rfl, ?_⟩) (by assumption) ?_
  · intro w hSw; (try dsimp only at hSw); go_simp
  try simp only [List.getElem_toArray, List.getElem_cons_zero, List.getElem_cons_succ, Act.put, List.setIfInBounds_toArray, List.set_cons_zero, List.set_cons_succ]
  refine wpAnyH_take (i := 2) (v := .bool true) rfl (by kernel_rfl) (by kernel_rfl) (by kernel_rfl) (fun _ _ _ h => h) (Or.inl ⟨by rfl, ?_⟩) (by assumption) ?_
  · intro w hSw; (try dsimp only at hSw); go_simp
  try simp only [List.getElem_toArray, List.getElem_cons_zero, List.getElem_cons_succ, Act.put, List.setIfInBounds_toArray, List.set_cons_zero, List.set_cons_succ]
  refine wpAnyH_take (i := 3) (v := .bool true) rfl (by kernel_rfl) (by kernel_rfl) (by kernel_rfl) (fun _ _ _ h => h) (Or.inl ⟨by rfl, ?_⟩) (by assumption) ?_
  · intro w hSw; (try dsimp only at hSw); go_simp
  try simp only [List.getElem_toArray, List.getElem_cons_zero, List.getElem_cons_succ, Act.put, List.setIfInBounds_toArray, List.set_cons_zero, List.set_cons_succ]
  refine wpAnyH_take (i := 4) (v := .int .i64 0) rfl (by kernel_rfl) (by kernel_rfl) (by kernel_rfl) (fun _ _ _ h => h) (Or.inl ⟨by rfl, ?_⟩) (by assumption) ?_
  · intro w hSw; (try dsimp only at hSw); go_simp
  try simp only [List.getElem_toArray, List.getElem_cons_zero, List.getElem_cons_succ, Act.put, List.setIfInBounds_toArray, List.set_cons_zero, List.set_cons_succ]
  refine wpAnyH_take (i := 5) (v := .bool true) rfl (by kernel_rfl) (by kernel_rfl) (by kernel_rfl) (fun _ _ _ h => h) (Or.inl ⟨by rfl, ?_⟩) (by assumption) ?_
  · intro w hSw; (try dsimp only at hSw); go_simp
  try simp only [List.getElem_toArray, List.getElem_cons_zero, List.getElem_cons_succ, Act.put, List.setIfInBounds_toArray, List.set_cons_zero, List.set_cons_succ]
  refine wpAnyH_take (i := 6) (v := .bool true) rfl (by kernel_rfl) (by kernel_rfl) (by kernel_rfl) (fun _ _ _ h => h) (Or.inl ⟨by rfl, ?_⟩) (by assumption) ?_
  · intro w hSw; (try dsimp only at hSw); go_simp
  try simp only [List.getElem_toArray, List.getElem_cons_zero, List.getElem_cons_succ, Act.put, List.setIfInBounds_toArray, List.set_cons_zero, List.set_cons_succ]
  refine wpAnyH_take (i := 7) (v := .bool true) rfl (by kernel_rfl) (by kernel_rfl) (by kernel_rfl) (fun _ _ _ h => h) (Or.inl ⟨by rfl, ?_⟩) (by assumption) ?_
  · intro w hSw; (try dsimp only at hSw); go_simp
  try simp only [List.getElem_toArray, List.getElem_cons_zero, List.getElem_cons_succ, Act.put, List.setIfInBounds_toArray, List.set_cons_zero, List.set_cons_succ]
  refine wpAnyH_take (i := 8) (v := .pointer (some ⟨w2.heap.size, 0, none⟩)) rfl (by kernel_rfl) (by kernel_rfl) (by kernel_rfl) (fun _ _ _ h => h) (Or.inl ⟨by rfl, ?_⟩) (by assumption) ?_
  · intro w hSw; (try dsimp only at hSw); go_simp
  try simp only [List.getElem_toArray, List.getElem_cons_zero, List.getElem_cons_succ, Act.put, List.setIfInBounds_toArray, List.set_cons_zero, List.set_cons_succ]
  refine wpAnyH_take (i := 9) (v := .string nBC) rfl (by kernel_rfl) (by kernel_rfl) (by kernel_rfl) (fun _ _ _ h => h) (Or.inl ⟨by rfl, ?_⟩) (by assumption) ?_
  · intro w hSw; (try dsimp only at hSw); go_simp
  try simp only [List.getElem_toArray, List.getElem_cons_zero, List.getElem_cons_succ, Act.put, List.setIfInBounds_toArray, List.set_cons_zero, List.set_cons_succ]
  refine wpAnyH_take (i := 10) (v := .bool true) rfl (by kernel_rfl) (by kernel_rfl) (by kernel_rfl) (fun _ _ _ h => h) (Or.inl ⟨by rfl, ?_⟩) (by assumption) ?_
  · intro w hSw; (try dsimp only at hSw); go_simp
  try simp only [List.getElem_toArray, List.getElem_cons_zero, List.getElem_cons_succ, Act.put, List.setIfInBounds_toArray, List.set_cons_zero, List.set_cons_succ]
  refine wpAnyH_take (i := 11) (v := .bool true) rfl (by kernel_rfl) (by kernel_rfl) (by kernel_rfl) (fun _ _ _ h => h) (Or.inl ⟨by rfl, ?_⟩) (by assumption) ?_
  · intro w hSw; (try dsimp only at hSw); go_simp
  try simp only [List.getElem_toArray, List.getElem_cons_zero, List.getElem_cons_succ, Act.put, List.setIfInBounds_toArray, List.set_cons_zero, List.set_cons_succ]
  refine wpAnyH_take (i := 12) (v := .bool true) rfl (by kernel_rfl) (by kernel_rfl) (by kernel_rfl) (fun _ _ _ h => h) (Or.inl ⟨by rfl, ?_⟩) (by assumption) ?_
  · intro w hSw; (try dsimp only at hSw); go_simp
  try simp only [List.getElem_toArray, List.getElem_cons_zero, List.getElem_cons_succ, Act.put, List.setIfInBounds_toArray, List.set_cons_zero, List.set_cons_succ]
  refine wpAnyH_take (i := 13) (v := .int .i64 0) rfl (by kernel_rfl) (by kernel_rfl) (by kernel_rfl) (fun _ _ _ h => h) (Or.inl ⟨by rfl, ?_⟩) (by assumption) ?_
  · intro w hSw; (try dsimp only at hSw); go_simp
  try simp only [List.getElem_toArray, List.getElem_cons_zero, List.getElem_cons_succ, Act.put, List.setIfInBounds_toArray, List.set_cons_zero, List.set_cons_succ]
  refine wpAnyH_take (i := 14) (v := .bool true) rfl (by kernel_rfl) (by kernel_rfl) (by kernel_rfl) (fun _ _ _ h => h) (Or.inl ⟨by rfl, ?_⟩) (by assumption) ?_
  · intro w hSw; (try dsimp only at hSw); go_simp
  try simp only [List.getElem_toArray, List.getElem_cons_zero, List.getElem_cons_succ, Act.put, List.setIfInBounds_toArray, List.set_cons_zero, List.set_cons_succ]
  refine wpAnyH_take (i := 15) (v := .bool true) rfl (by kernel_rfl) (by kernel_rfl) (by kernel_rfl) (fun _ _ _ h => h) (Or.inl ⟨by rfl, ?_⟩) (by assumption) ?_
  · intro w hSw; (try dsimp only at hSw); go_simp
  try simp only [List.getElem_toArray, List.getElem_cons_zero, List.getElem_cons_succ, Act.put, List.setIfInBounds_toArray, List.set_cons_zero, List.set_cons_succ]
  refine wpAnyH_take (i := 16) (v := .bool true) rfl (by kernel_rfl) (by kernel_rfl) (by kernel_rfl) (fun _ _ _ h => h) (Or.inl ⟨by rfl, ?_⟩) (by assumption) ?_
  · intro w hSw; (try dsimp only at hSw); go_simp
  try simp only [List.getElem_toArray, List.getElem_cons_zero, List.getElem_cons_succ, Act.put, List.setIfInBounds_toArray, List.set_cons_zero, List.set_cons_succ]
  refine wpAnyH_take (i := 17) (v := .agg #[.string nABC, .int .u16 1, .int .u16 1]) rfl (by kernel_rfl) (by kernel_rfl) (by kernel_rfl) (fun _ _ _ h => h) (Or.inl ⟨by rfl, ?_⟩) (by assumption) ?_
  · intro w hSw; (try dsimp only at hSw); go_simp
  try simp only [List.getElem_toArray, List.getElem_cons_zero, List.getElem_cons_succ, Act.put, List.setIfInBounds_toArray, List.set_cons_zero, List.set_cons_succ]
  refine wpAnyH_take (i := 18) (v := .agg #[.string nABC, .int .u16 1, .int .u16 1]) rfl (by kernel_rfl) (by kernel_rfl) (by kernel_rfl) (fun _ _ _ h => h) (Or.inl ⟨by rfl, ?_⟩) (by assumption) ?_
  · intro w hSw; (try dsimp only at hSw); go_simp
  try simp only [List.getElem_toArray, List.getElem_cons_zero, List.getElem_cons_succ, Act.put, List.setIfInBounds_toArray, List.set_cons_zero, List.set_cons_succ]
  refine wpAnyH_take (i := 19) (v := .bool true) rfl (by kernel_rfl) (by kernel_rfl) (by kernel_rfl) (fun _ _ _ h => h) (Or.inl ⟨by rfl, ?_⟩) (by assumption) ?_
  · intro w hSw; (try dsimp only at hSw); go_simp
  try simp only [List.getElem_toArray, List.getElem_cons_zero, List.getElem_cons_succ, Act.put, List.setIfInBounds_toArray, List.set_cons_zero, List.set_cons_succ]
  refine wpAnyH_take (i := 20) (v := .bool true) rfl (by kernel_rfl) (by kernel_rfl) (by kernel_rfl) (fun _ _ _ h => h) (Or.inl ⟨by rfl, ?_⟩) (by assumption) ?_
  · intro w hSw; (try dsimp only at hSw); go_simp
  try simp only [List.getElem_toArray, List.getElem_cons_zero, List.getElem_cons_succ, Act.put, List.setIfInBounds_toArray, List.set_cons_zero, List.set_cons_succ]
  refine wpAnyH_take (i := 21) (v := .bool true) rfl (by kernel_rfl) (by kernel_rfl) (by kernel_rfl) (fun _ _ _ h => h) (Or.inl ⟨by rfl, ?_⟩) (by assumption) ?_
  · intro w hSw; (try dsimp only at hSw); go_simp
  try simp only [List.getElem_toArray, List.getElem_cons_zero, List.getElem_cons_succ, Act.put, List.setIfInBounds_toArray, List.set_cons_zero, List.set_cons_succ]
  refine wpAnyH_take (i := 22) (v := .int .i64 0) rfl (by kernel_rfl) (by kernel_rfl) (by kernel_rfl) (fun _ _ _ h => h) (Or.inl ⟨by rfl, ?_⟩) (by assumption) ?_
  · intro w hSw; (try dsimp only at hSw); go_simp
  try simp only [List.getElem_toArray, List.getElem_cons_zero, List.getElem_cons_succ, Act.put, List.setIfInBounds_toArray, List.set_cons_zero, List.set_cons_succ]
  refine wpAnyH_take (i := 23) (v := .bool true) rfl (by kernel_rfl) (by kernel_rfl) (by kernel_rfl) (fun _ _ _ h => h) (Or.inl ⟨by rfl, ?_⟩) (by assumption) ?_
  · intro w hSw; (try dsimp only at hSw); go_simp
  try simp only [List.getElem_toArray, List.getElem_cons_zero, List.getElem_cons_succ, Act.put, List.setIfInBounds_toArray, List.set_cons_zero, List.set_cons_succ]
  refine wpAnyH_take (i := 24) (v := .bool true) rfl (by kernel_rfl) (by kernel_rfl) (by kernel_rfl) (fun _ _ _ h => h) (Or.inl ⟨by rfl, ?_⟩) (by assumption) ?_
  · intro w hSw; (try dsimp only at hSw); go_simp
  try simp only [List.getElem_toArray, List.getElem_cons_zero, List.getElem_cons_succ, Act.put, List.setIfInBounds_toArray, List.set_cons_zero, List.set_cons_succ]
  refine wpAnyH_take (i := 25) (v := .bool true) rfl (by kernel_rfl) (by kernel_rfl) (by kernel_rfl) (fun _ _ _ h => h) (Or.inl ⟨by rfl, ?_⟩) (by assumption) ?_
  · intro w hSw; (try dsimp only at hSw); go_simp
  try simp only [List.getElem_toArray, List.getElem_cons_zero, List.getElem_cons_succ, Act.put, List.setIfInBounds_toArray, List.set_cons_zero, List.set_cons_succ]
  refine wpAnyH_take (i := 26) (v := .int .i64 3) rfl (by kernel_rfl) (by kernel_rfl) (by kernel_rfl) (fun _ _ _ h => h) (Or.inl ⟨by rfl, ?_⟩) (by assumption) ?_
  · intro w hSw; (try dsimp only at hSw); go_simp
  try simp only [List.getElem_toArray, List.getElem_cons_zero, List.getElem_cons_succ, Act.put, List.setIfInBounds_toArray, List.set_cons_zero, List.set_cons_succ]
  refine wpAnyH_take (i := 27) (v := .bool true) rfl (by kernel_rfl) (by kernel_rfl) (by kernel_rfl) (fun _ _ _ h => h) (Or.inl ⟨by rfl, ?_⟩) (by assumption) ?_
  · intro w hSw; (try dsimp only at hSw); go_simp
  try simp only [List.getElem_toArray, List.getElem_cons_zero, List.getElem_cons_succ, Act.put, List.setIfInBounds_toArray, List.set_cons_zero, List.set_cons_succ]
  refine wpAnyH_take (i := 28) (v := .bool true) rfl (by kernel_rfl) (by kernel_rfl) (by kernel_rfl) (fun _ _ _ h => h) (Or.inl ⟨by rfl, ?_⟩) (by assumption) ?_
  · intro w hSw; (try dsimp only at hSw); go_simp
  try simp only [List.getElem_toArray, List.getElem_cons_zero, List.getElem_cons_succ, Act.put, List.setIfInBounds_toArray, List.set_cons_zero, List.set_cons_succ]
  refine wpAnyH_take (i := 29) (v := .bool true) rfl (by kernel_rfl) (by kernel_rfl) (by kernel_rfl) (fun _ _ _ h => h) (Or.inl ⟨by rfl, ?_⟩) (by assumption) ?_
  · intro w hSw; (try dsimp only at hSw); go_simp
  try simp only [List.getElem_toArray, List.getElem_cons_zero, List.getElem_cons_succ, Act.put, List.setIfInBounds_toArray, List.set_cons_zero, List.set_cons_succ]
  refine wpAnyH_take (i := 30) (v := .int .i64 2) rfl (by kernel_rfl) (by kernel_rfl) (by kernel_rfl) (fun _ _ _ h => h) (Or.inl ⟨by rfl, ?_⟩) (by assumption) ?_
  · intro w hSw; (try dsimp only at hSw); go_simp
  try simp only [List.getElem_toArray, List.getElem_cons_zero, List.getElem_cons_succ, Act.put, List.setIfInBounds_toArray, List.set_cons_zero, List.set_cons_succ]
  refine wpAnyH_take (i := 31) (v := .bool true) rfl (by kernel_rfl) (by kernel_rfl) (by kernel_rfl) (fun _ _ _ h => h) (Or.inl ⟨by rfl, ?_⟩) (by assumption) ?_
  · intro w hSw; (try dsimp only at hSw); go_simp
  try simp only [List.getElem_toArray, List.getElem_cons_zero, List.getElem_cons_succ, Act.put, List.setIfInBounds_toArray, List.set_cons_zero, List.set_cons_succ]
  refine wpAnyH_take (i := 32) (v := .bool true) rfl (by kernel_rfl) (by kernel_rfl) (by kernel_rfl) (fun _ _ _ h => h) (Or.inl ⟨by rfl, ?_⟩) (by assumption) ?_
  · intro w hSw; (try dsimp only at hSw); go_simp
  try simp only [List.getElem_toArray, List.getElem_cons_zero, List.getElem_cons_succ, Act.put, List.setIfInBounds_toArray, List.set_cons_zero, List.set_cons_succ]
  refine wpAnyH_take (i := 33) (v := .bool true) rfl (by kernel_rfl) (by kernel_rfl) (by kernel_rfl) (fun _ _ _ h => h) (Or.inl ⟨by rfl, ?_⟩) (by assumption) ?_
  · intro w hSw; (try dsimp only at hSw); go_simp
  try simp only [List.getElem_toArray, List.getElem_cons_zero, List.getElem_cons_succ, Act.put, List.setIfInBounds_toArray, List.set_cons_zero, List.set_cons_succ]
  refine wpAnyH_take (i := 34) (v := .agg #[.string nABC, .int .u16 1, .int .u16 1]) rfl (by kernel_rfl) (by kernel_rfl) (by kernel_rfl) (fun _ _ _ h => h) (Or.inl ⟨by rfl, ?_⟩) (by assumption) ?_
  · intro w hSw; (try dsimp only at hSw); go_simp
  try simp only [List.getElem_toArray, List.getElem_cons_zero, List.getElem_cons_succ, Act.put, List.setIfInBounds_toArray, List.set_cons_zero, List.set_cons_succ]
  refine wpAnyH_take (i := 36) (v := .agg #[.string nC, .int .u16 2, .int .u16 1]) rfl (by kernel_rfl) (by kernel_rfl) (by kernel_rfl) (fun _ _ _ h => h) (Or.inl ⟨by rfl, ?_⟩) (by assumption) ?_
  · intro w hSw; (try dsimp only at hSw); go_simp
  try simp only [List.getElem_toArray, List.getElem_cons_zero, List.getElem_cons_succ, Act.put, List.setIfInBounds_toArray, List.set_cons_zero, List.set_cons_succ]
  refine wpAnyH_take (i := 37) (v := .agg #[.string nBC, .int .u16 2, .int .u16 1]) rfl (by kernel_rfl) (by kernel_rfl) (by kernel_rfl) (fun _ _ _ h => h) (Or.inl ⟨by rfl, ?_⟩) (by assumption) ?_
  · intro w hSw; (try dsimp only at hSw); go_simp
  try simp only [List.getElem_toArray, List.getElem_cons_zero, List.getElem_cons_succ, Act.put, List.setIfInBounds_toArray, List.set_cons_zero, List.set_cons_succ]
  refine wpAnyH_take (i := 38) (v := .agg #[.string nABC, .int .u16 1, .int .u16 1]) rfl (by kernel_rfl) (by kernel_rfl) (by kernel_rfl) (fun _ _ _ h => h) (Or.inl ⟨by rfl, ?_⟩) (by assumption) ?_
  · intro w hSw; (try dsimp only at hSw); go_simp
  try simp only [List.getElem_toArray, List.getElem_cons_zero, List.getElem_cons_succ, Act.put, List.setIfInBounds_toArray, List.set_cons_zero, List.set_cons_succ]
  refine wpAnyH_ready (rs := [35, 39]) (by kernel_rfl) (by simp) ?_
  refine AllReadyH.cons rfl (fun K hK => ?_) (AllReadyH.cons rfl (fun K hK => ?_) AllReadyH.nil)
  · go_simp
    go_at_call 29
    refine (cSt _).mono ?_
    rintro e w' ⟨A, c, rfl, hT, hb⟩
    try go_wp2_with (fail)
    refine hK.out _ _ ?_ (fun hHeld => ?_)
    · exact kC12 lq lx ly lz hHeld0 hb
    clear hK K hHeld0
    have hHeld0 := hHeld
    clear hHeld
    try simp only [List.getElem_toArray, List.getElem_cons_zero, List.getElem_cons_succ, Act.put, List.setIfInBounds_toArray, List.set_cons_zero, List.set_cons_succ]
    refine wpAnyH_ready (rs := [39]) (by kernel_rfl) (by simp) ?_
    refine AllReadyH.cons rfl (fun K hK => ?_) AllReadyH.nil
    go_simp
    refine hK.out _ _ ?_ (fun hHeld => ?_)
    · exact kC12 lq lx ly lz hHeld0 ((Below.refl _ _).alloc (Nat.le_refl _) _)
    clear hK K hHeld0
    have hHeld0 := hHeld
    clear hHeld
    try simp only [List.getElem_toArray, List.getElem_cons_zero, List.getElem_cons_succ, Act.put, List.setIfInBounds_toArray, List.set_cons_zero, List.set_cons_succ]
    refine wpAnyH_ready (rs := [40]) (by kernel_rfl) (by simp) ?_
    refine AllReadyH.cons rfl (fun K hK => ?_) AllReadyH.nil
    go_simp
    go_at_call 59
    refine (cSm (hT.below ((Below.refl _ _).alloc (Nat.le_refl _) _)) (Blk.new _ _ _)).mono ?_
    rintro e w'' ⟨rfl, hb⟩
    try go_wp2_with (fail)
    refine hK.out _ _ ?_ (fun hHeld => ?_)
    · exact kC12 lq lx ly lz hHeld0 hb
    clear hK K hHeld0
    have hHeld0 := hHeld
    clear hHeld
    try simp only [List.getElem_toArray, List.getElem_cons_zero, List.getElem_cons_succ, Act.put, List.setIfInBounds_toArray, List.set_cons_zero, List.set_cons_succ]
    refine wpAnyH_take (i := 41) (v := .bool true) rfl (by kernel_rfl) (by kernel_rfl) (by kernel_rfl) (fun _ _ _ h => h) (Or.inl ⟨by rfl, ?_⟩) (by assumption) ?_
    · intro w hSw; (try dsimp only at hSw); go_simp
    try simp only [List.getElem_toArray, List.getElem_cons_zero, List.getElem_cons_succ, Act.put, List.setIfInBounds_toArray, List.set_cons_zero, List.set_cons_succ]
    refine wpAnyH_take (i := 42) (v := .bool true) rfl (by kernel_rfl) (by kernel_rfl) (by kernel_rfl) (fun _ _ _ h => h) (Or.inl ⟨by rfl, ?_⟩) (by assumption) ?_
    · intro w hSw; (try dsimp only at hSw); go_simp
    try simp only [List.getElem_toArray, List.getElem_cons_zero, List.getElem_cons_succ, Act.put, List.setIfInBounds_toArray, List.set_cons_zero, List.set_cons_succ]
    refine wpAnyH_take (i := 43) (v := .agg #[.string nC, .int .u16 2, .int .u16 1]) rfl (by kernel_rfl) (by kernel_rfl) (by kernel_rfl) (fun _ _ _ h => h) (Or.inl ⟨by rfl, ?_⟩) (by assumption) ?_
    · intro w hSw; (try dsimp only at hSw); go_simp
    try simp only [List.getElem_toArray, List.getElem_cons_zero, List.getElem_cons_succ, Act.put, List.setIfInBounds_toArray, List.set_cons_zero, List.set_cons_succ]
    refine wpAnyH_take (i := 44) (v := .agg #[.string nABC, .int .u16 1, .int .u16 1]) rfl (by kernel_rfl) (by kernel_rfl) (by kernel_rfl) (fun _ _ _ h => h) (Or.inl ⟨by rfl, ?_⟩) (by assumption) ?_
    · intro w hSw; (try dsimp only at hSw); go_simp
    try simp only [List.getElem_toArray, List.getElem_cons_zero, List.getElem_cons_succ, Act.put, List.setIfInBounds_toArray, List.set_cons_zero, List.set_cons_succ]
    refine wpAnyH_ready (rs := [45]) (by kernel_rfl) (by simp) ?_
    refine AllReadyH.cons rfl (fun K hK => ?_) AllReadyH.nil
    go_simp
    go_at_call 30
    refine (cT1 _).mono ?_
    rintro e w3 ⟨rfl, hb⟩
    try go_wp2_with (fail)
    refine hK.out _ _ ?_ (fun hHeld => ?_)
    · exact kC12 lq lx ly lz hHeld0 hb
    clear hK K hHeld0
    have hHeld0 := hHeld
    clear hHeld
    try simp only [List.getElem_toArray, List.getElem_cons_zero, List.getElem_cons_succ, Act.put, List.setIfInBounds_toArray, List.set_cons_zero, List.set_cons_succ]
    refine wpAnyH_take (i := 46) (v := .bool true) rfl (by kernel_rfl) (by kernel_rfl) (by kernel_rfl) (fun _ _ _ h => h) (Or.inl ⟨by rfl, ?_⟩) (by assumption) ?_
    · intro w hSw; (try dsimp only at hSw); go_simp
    try simp only [List.getElem_toArray, List.getElem_cons_zero, List.getElem_cons_succ, Act.put, List.setIfInBounds_toArray, List.set_cons_zero, List.set_cons_succ]
    refine wpAnyH_take (i := 47) (v := .bool true) rfl (by kernel_rfl) (by kernel_rfl) (by kernel_rfl) (fun _ _ _ h => h) (Or.inl ⟨by rfl, ?_⟩) (by assumption) ?_
    · intro w hSw; (try dsimp only at hSw); go_simp
    try simp only [List.getElem_toArray, List.getElem_cons_zero, List.getElem_cons_succ, Act.put, List.setIfInBounds_toArray, List.set_cons_zero, List.set_cons_succ]
    refine wpAnyH_take (i := 48) (v := .bool true) rfl (by kernel_rfl) (by kernel_rfl) (by kernel_rfl) (fun _ _ _ h => h) (Or.inl ⟨by rfl, ?_⟩) (by assumption) ?_
    · intro w hSw; (try dsimp only at hSw); go_simp
    try simp only [List.getElem_toArray, List.getElem_cons_zero, List.getElem_cons_succ, Act.put, List.setIfInBounds_toArray, List.set_cons_zero, List.set_cons_succ]
    refine wpAnyH_take (i := 49) (v := .agg #[.string nABC, .int .u16 1, .int .u16 1]) rfl (by kernel_rfl) (by kernel_rfl) (by kernel_rfl) (fun _ _ _ h => h) (Or.inl ⟨by rfl, ?_⟩) (by assumption) ?_
    · intro w hSw; (try dsimp only at hSw); go_simp
    try simp only [List.getElem_toArray, List.getElem_cons_zero, List.getElem_cons_succ, Act.put, List.setIfInBounds_toArray, List.set_cons_zero, List.set_cons_succ]
    refine wpAnyH_take (i := 50) (v := .agg #[.string nC, .int .u16 2, .int .u16 1]) rfl (by kernel_rfl) (by kernel_rfl) (by kernel_rfl) (fun _ _ _ h => h) (Or.inl ⟨by rfl, ?_⟩) (by assumption) ?_
    · intro w hSw; (try dsimp only at hSw); go_simp
    try simp only [List.getElem_toArray, List.getElem_cons_zero, List.getElem_cons_succ, Act.put, List.setIfInBounds_toArray, List.set_cons_zero, List.set_cons_succ]
    refine wpAnyH_ready (rs := [51]) (by kernel_rfl) (by simp) ?_
    refine AllReadyH.cons rfl (fun K hK => ?_) AllReadyH.nil
    go_simp
    go_at_call 30
    refine (cT2 _).mono ?_
    rintro e w4 ⟨rfl, hb⟩
    try go_wp2_with (fail)
    refine hK.out _ _ ?_ (fun hHeld => ?_)
    · exact kC12 lq lx ly lz hHeld0 hb
    clear hK K hHeld0
    have hHeld0 := hHeld
    clear hHeld
    try simp only [List.getElem_toArray, List.getElem_cons_zero, List.getElem_cons_succ, Act.put, List.setIfInBounds_toArray, List.set_cons_zero, List.set_cons_succ]
    refine wpAnyH_take (i := 52) (v := .bool true) rfl (by kernel_rfl) (by kernel_rfl) (by kernel_rfl) (fun _ _ _ h => h) (Or.inl ⟨by rfl, ?_⟩) (by assumption) ?_
    · intro w hSw; (try dsimp only at hSw); go_simp
    try simp only [List.getElem_toArray, List.getElem_cons_zero, List.getElem_cons_succ, Act.put, List.setIfInBounds_toArray, List.set_cons_zero, List.set_cons_succ]
    refine wpAnyH_take (i := 53) (v := .bool true) rfl (by kernel_rfl) (by kernel_rfl) (by kernel_rfl) (fun _ _ _ h => h) (Or.inl ⟨by rfl, ?_⟩) (by assumption) ?_
    · intro w hSw; (try dsimp only at hSw); go_simp
    try simp only [List.getElem_toArray, List.getElem_cons_zero, List.getElem_cons_succ, Act.put, List.setIfInBounds_toArray, List.set_cons_zero, List.set_cons_succ]
    refine wpAnyH_take (i := 54) (v := .bool true) rfl (by kernel_rfl) (by kernel_rfl) (by kernel_rfl) (fun _ _ _ h => h) (Or.inl ⟨by rfl, ?_⟩) (by assumption) ?_
    · intro w hSw; (try dsimp only at hSw); go_simp
    try simp only [List.getElem_toArray, List.getElem_cons_zero, List.getElem_cons_succ, Act.put, List.setIfInBounds_toArray, List.set_cons_zero, List.set_cons_succ]
    refine wpAnyH_done (by kernel_rfl) ?_ _
    have hbf := last14 hHeld0
    have HBF := Lib.hid (HL.out.trans (hbf.mono HL.out.size))
    clear hbf hHeld0 F0 F1 F2 F3 F4 F5 F6 F7 F8 F9 F10 F11
    go_wp2_with (fail)
    go_ret
    exact ⟨rfl, HBF.out⟩
  · go_simp
    refine hK.out _ _ ?_ (fun hHeld => ?_)
    · exact kC12 lq lx ly lz hHeld0 ((Below.refl _ _).alloc (Nat.le_refl _) _)
    clear hK K hHeld0
    have hHeld0 := hHeld
    clear hHeld
    try simp only [List.getElem_toArray, List.getElem_cons_zero, List.getElem_cons_succ, Act.put, List.setIfInBounds_toArray, List.set_cons_zero, List.set_cons_succ]
    refine wpAnyH_ready (rs := [35]) (by kernel_rfl) (by simp) ?_
    refine AllReadyH.cons rfl (fun K hK => ?_) AllReadyH.nil
    go_simp
    go_at_call 29
    refine (cSt _).mono ?_
    rintro e w' ⟨A, c, rfl, hT, hb⟩
    try go_wp2_with (fail)
    refine hK.out _ _ ?_ (fun hHeld => ?_)
    · exact kC12 lq lx ly lz hHeld0 hb
    clear hK K hHeld0
    have hHeld0 := hHeld
    clear hHeld
    try simp only [List.getElem_toArray, List.getElem_cons_zero, List.getElem_cons_succ, Act.put, List.setIfInBounds_toArray, List.set_cons_zero, List.set_cons_succ]
    refine wpAnyH_ready (rs := [40]) (by kernel_rfl) (by simp) ?_
    refine AllReadyH.cons rfl (fun K hK => ?_) AllReadyH.nil
    go_simp
    go_at_call 59
    refine (cSm hT ((Blk.new V _ _).drew.below hb (by simp))).mono ?_
    rintro e w'' ⟨rfl, hb⟩
    try go_wp2_with (fail)
    refine hK.out _ _ ?_ (fun hHeld => ?_)
    · exact kC12 lq lx ly lz hHeld0 hb
    clear hK K hHeld0
    have hHeld0 := hHeld
    clear hHeld
    try simp only [List.getElem_toArray, List.getElem_cons_zero, List.getElem_cons_succ, Act.put, List.setIfInBounds_toArray, List.set_cons_zero, List.set_cons_succ]
    refine wpAnyH_take (i := 41) (v := .bool true) rfl (by kernel_rfl) (by kernel_rfl) (by kernel_rfl) (fun _ _ _ h => h) (Or.inl ⟨by rfl, ?_⟩) (by assumption) ?_
    · intro w hSw; (try dsimp only at hSw); go_simp
    try simp only [List.getElem_toArray, List.getElem_cons_zero, List.getElem_cons_succ, Act.put, List.setIfInBounds_toArray, List.set_cons_zero, List.set_cons_succ]
    refine wpAnyH_take (i := 42) (v := .bool true) rfl (by kernel_rfl) (by kernel_rfl) (by kernel_rfl) (fun _ _ _ h => h) (Or.inl ⟨by rfl, ?_⟩) (by assumption) ?_
    · intro w hSw; (try dsimp only at hSw); go_simp
    try simp only [List.getElem_toArray, List.getElem_cons_zero, List.getElem_cons_succ, Act.put, List.setIfInBounds_toArray, List.set_cons_zero, List.set_cons_succ]
    refine wpAnyH_take (i := 43) (v := .agg #[.string nC, .int .u16 2, .int .u16 1]) rfl (by kernel_rfl) (by kernel_rfl) (by kernel_rfl) (fun _ _ _ h => h) (Or.inl ⟨by rfl, ?_⟩) (by assumption) ?_
    · intro w hSw; (try dsimp only at hSw); go_simp
    try simp only [List.getElem_toArray, List.getElem_cons_zero, List.getElem_cons_succ, Act.put, List.setIfInBounds_toArray, List.set_cons_zero, List.set_cons_succ]
    refine wpAnyH_take (i := 44) (v := .agg #[.string nABC, .int .u16 1, .int .u16 1]) rfl (by kernel_rfl) (by kernel_rfl) (by kernel_rfl) (fun _ _ _ h => h) (Or.inl ⟨by rfl, ?_⟩) (by assumption) ?_
    · intro w hSw; (try dsimp only at hSw); go_simp
    try simp only [List.getElem_toArray, List.getElem_cons_zero, List.getElem_cons_succ, Act.put, List.setIfInBounds_toArray, List.set_cons_zero, List.set_cons_succ]
    refine wpAnyH_ready (rs := [45]) (by kernel_rfl) (by simp) ?_
    refine AllReadyH.cons rfl (fun K hK => ?_) AllReadyH.nil
    go_simp
    go_at_call 30
    refine (cT1 _).mono ?_
    rintro e w3 ⟨rfl, hb⟩
    try go_wp2_with (fail)
    refine hK.out _ _ ?_ (fun hHeld => ?_)
    · exact kC12 lq lx ly lz hHeld0 hb
    clear hK K hHeld0
    have hHeld0 := hHeld
    clear hHeld
    try simp only [List.getElem_toArray, List.getElem_cons_zero, List.getElem_cons_succ, Act.put, List.setIfInBounds_toArray, List.set_cons_zero, List.set_cons_succ]
    refine wpAnyH_take (i := 46) (v := .bool true) rfl (by kernel_rfl) (by kernel_rfl) (by kernel_rfl) (fun _ _ _ h => h) (Or.inl ⟨by rfl, ?_⟩) (by assumption) ?_
    · intro w hSw; (try dsimp only at hSw); go_simp
    try simp only [List.getElem_toArray, List.getElem_cons_zero, List.getElem_cons_succ, Act.put, List.setIfInBounds_toArray, List.set_cons_zero, List.set_cons_succ]
    refine wpAnyH_take (i := 47) (v := .bool true) rfl (by kernel_rfl) (by kernel_rfl) (by kernel_rfl) (fun _ _ _ h => h) (Or.inl ⟨by rfl, ?_⟩) (by assumption) ?_
    · intro w hSw; (try dsimp only at hSw); go_simp
    try simp only [List.getElem_toArray, List.getElem_cons_zero, List.getElem_cons_succ, Act.put, List.setIfInBounds_toArray, List.set_cons_zero, List.set_cons_succ]
    refine wpAnyH_take (i := 48) (v := .bool true) rfl (by kernel_rfl) (by kernel_rfl) (by kernel_rfl) (fun _ _ _ h => h) (Or.inl ⟨by rfl, ?_⟩) (by assumption) ?_
    · intro w hSw; (try dsimp only at hSw); go_simp
    try simp only [List.getElem_toArray, List.getElem_cons_zero, List.getElem_cons_succ, Act.put, List.setIfInBounds_toArray, List.set_cons_zero, List.set_cons_succ]
    refine wpAnyH_take (i := 49) (v := .agg #[.string nABC, .int .u16 1, .int .u16 1]) rfl (by kernel_rfl) (by kernel_rfl) (by kernel_rfl) (fun _ _ _ h => h) (Or.inl ⟨by rfl, ?_⟩) (by assumption) ?_
    · intro w hSw; (try dsimp only at hSw); go_simp
    try simp only [List.getElem_toArray, List.getElem_cons_zero, List.getElem_cons_succ, Act.put, List.setIfInBounds_toArray, List.set_cons_zero, List.set_cons_succ]
    refine wpAnyH_take (i := 50) (v := .agg #[.string nC, .int .u16 2, .int .u16 1]) rfl (by kernel_rfl) (by kernel_rfl) (by kernel_rfl) (fun _ _ _ h => h) (Or.inl ⟨by rfl, ?_⟩) (by assumption) ?_
    · intro w hSw; (try dsimp only at hSw); go_simp
    try simp only [List.getElem_toArray, List.getElem_cons_zero, List.getElem_cons_succ, Act.put, List.setIfInBounds_toArray, List.set_cons_zero, List.set_cons_succ]
    refine wpAnyH_ready (rs := [51]) (by kernel_rfl) (by simp) ?_
    refine AllReadyH.cons rfl (fun K hK => ?_) AllReadyH.nil
    go_simp
    go_at_call 30
    refine (cT2 _).mono ?_
    rintro e w4 ⟨rfl, hb⟩
    try go_wp2_with (fail)
    refine hK.out _ _ ?_ (fun hHeld => ?_)
    · exact kC12 lq lx ly lz hHeld0 hb
    clear hK K hHeld0
    have hHeld0 := hHeld
    clear hHeld
    try simp only [List.getElem_toArray, List.getElem_cons_zero, List.getElem_cons_succ, Act.put, List.setIfInBounds_toArray, List.set_cons_zero, List.set_cons_succ]
    refine wpAnyH_take (i := 52) (v := .bool true) rfl (by kernel_rfl) (by kernel_rfl) (by kernel_rfl) (fun _ _ _ h => h) (Or.inl ⟨by rfl, ?_⟩) (by assumption) ?_
    · intro w hSw; (try dsimp only at hSw); go_simp
    try simp only [List.getElem_toArray, List.getElem_cons_zero, List.getElem_cons_succ, Act.put, List.setIfInBounds_toArray, List.set_cons_zero, List.set_cons_succ]
    refine wpAnyH_take (i := 53) (v := .bool true) rfl (by kernel_rfl) (by kernel_rfl) (by kernel_rfl) (fun _ _ _ h => h) (Or.inl ⟨by rfl, ?_⟩) (by assumption) ?_
    · intro w hSw; (try dsimp only at hSw); go_simp
    try simp only [List.getElem_toArray, List.getElem_cons_zero, List.getElem_cons_succ, Act.put, List.setIfInBounds_toArray, List.set_cons_zero, List.set_cons_succ]
    refine wpAnyH_take (i := 54) (v := .bool true) rfl (by kernel_rfl) (by kernel_rfl) (by kernel_rfl) (fun _ _ _ h => h) (Or.inl ⟨by rfl, ?_⟩) (by assumption) ?_
    · intro w hSw; (try dsimp only at hSw); go_simp
    try simp only [List.getElem_toArray, List.getElem_cons_zero, List.getElem_cons_succ, Act.put, List.setIfInBounds_toArray, List.set_cons_zero, List.set_cons_succ]
    refine wpAnyH_done (by kernel_rfl) ?_ _
    have hbf := last14 hHeld0
    have HBF := Lib.hid (HL.out.trans (hbf.mono HL.out.size))
    clear hbf hHeld0 F0 F1 F2 F3 F4 F5 F6 F7 F8 F9 F10 F11
    go_wp2_with (fail)
    go_ret
    exact ⟨rfl, HBF.out⟩
end Go.Proofs.Ytjhhhkhcnohmiaa
