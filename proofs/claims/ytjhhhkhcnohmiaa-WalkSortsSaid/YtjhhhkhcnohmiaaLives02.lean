/- The walk of hardtacklaw02.lives. -/
import Derived.Test.YtjhhhkhcnohmiaaSort02
import Derived.Test.YtjhhhkhcnohmiaaList02
import Derived.Test.YtjhhhkhcnohmiaaDeepest
import Derived.Test.YtjhhhkhcnohmiaaCommon
import Derived.Test.YtjhhhkhcnohmiaaNext3
import Derived.Test.YtjhhhkhcnohmiaaSameT
namespace Go.Proofs.Ytjhhhkhcnohmiaa
open Go.RowKit Go.Lib

def nAB : ByteArray := ⟨#[1, 97, 1, 98, 3, 111, 114, 103, 0]⟩
def nCB : ByteArray := ⟨#[1, 99, 1, 66, 3, 111, 114, 103, 0]⟩
def nBO : ByteArray := ⟨#[1, 98, 3, 111, 114, 103, 0]⟩
def nOO : ByteArray := ⟨#[3, 111, 114, 103, 0]⟩
def nRR : ByteArray := ⟨#[0]⟩
theorem c02a (w : World) : Calls Try.prog 33 #[.string ⟨#[1, 97, 1, 98, 3, 111, 114, 103, 0]⟩, .string ⟨#[1, 99, 1, 66, 3, 111, 114, 103, 0]⟩] w fun e w' => e = .returned (.tuple #[.string nBO, .int .i64 0]) ∧ Below w.heap.size w w' := by
  have := Common_yes nAB nCB (by decide) (by decide) (by decide +kernel) (by decide +kernel) w
  rw [show comB nAB.data.toList nCB.data.toList = nBO.data.toList from by decide +kernel] at this
  exact this
theorem c02b (w : World) : Calls Try.prog 26 #[.string ⟨#[3, 111, 114, 103, 0]⟩, .string ⟨#[1, 97, 1, 98, 3, 111, 114, 103, 0]⟩] w fun e w' => e = .returned (.tuple #[.string nBO, .int .i64 0]) ∧ Below w.heap.size w w' := by
  have := Next_any nOO nAB (by decide) (by decide) w
  rw [show nextP nOO.data.toList nAB.data.toList = (nBO.data.toList, 0) from by decide +kernel] at this
  exact this
theorem c02c (w : World) : Calls Try.prog 26 #[.string ⟨#[1, 97, 1, 98, 3, 111, 114, 103, 0]⟩, .string ⟨#[3, 111, 114, 103, 0]⟩] w fun e w' => e = .returned (.tuple #[.string ⟨#[]⟩, .int .i64 3]) ∧ Below w.heap.size w w' := by
  have := Next_any nAB nOO (by decide) (by decide) w
  rw [show nextP nAB.data.toList nOO.data.toList = ([], 3) from by decide +kernel] at this
  exact this
theorem ttab_new {w : World} {g : Nat} {t : TypeId} {xs : List ByteArray} (h : Blk w g t (xs.map Value.string).toArray) : TTab w (some ⟨g, 0, none⟩) (xs.map Value.string) := fun _ =>
  ⟨g, 0, rfl, h.lt, fun j u hu => by rw [Nat.zero_add, h.cell j]; simpa using hu⟩
theorem c02d {w : World} {g : Nat} (h : Blk w g 9 #[.string nRR, .string nOO, .string nCB]) :
    Calls Try.prog 42 #[.string ⟨#[1, 97, 1, 98, 3, 111, 114, 103, 0]⟩, .slice (some ⟨g, 0, none⟩) 3 3] w fun e w' => e = .returned (.tuple #[.string nOO, .int .i64 0]) ∧ Below w.heap.size w w' := by
  have := Deepest_any nAB [nRR, nOO, nCB] (some ⟨g, 0, none⟩) 3 w (ttab_new (xs := [nRR, nOO, nCB]) h) (by decide) (by decide) (by decide)
  rw [show deepP nAB.data.toList ([nRR, nOO, nCB].map fun x => x.data.toList) = (nOO.data.toList, 0) from by decide +kernel] at this
  exact this
theorem c02e {w : World} {g : Nat} (h : Blk w g 9 #[.string nAB]) :
    Calls Try.prog 42 #[.string ⟨#[3, 111, 114, 103, 0]⟩, .slice (some ⟨g, 0, none⟩) 1 1] w fun e w' => e = .returned (.tuple #[.string ⟨#[]⟩, .int .i64 3]) ∧ Below w.heap.size w w' := by
  have := Deepest_any nOO [nAB] (some ⟨g, 0, none⟩) 1 w (ttab_new (xs := [nAB]) h) (by decide) (by decide) (by decide)
  rw [show deepP nOO.data.toList ([nAB].map fun x => x.data.toList) = ([], 3) from by decide +kernel] at this
  exact this
theorem c02f (w : World) : Calls Try.prog 40 #[.string ⟨#[1, 97, 1, 98, 3, 111, 114, 103, 0]⟩] w fun e w' => ∃ g c, e = .returned (.slice (some ⟨g, 0, none⟩) 4 c) ∧ (g < w'.heap.size ∧ w'.cell? ⟨g, 0, none⟩ = some (.string nAB) ∧ w'.cell? ⟨g, 3, none⟩ = some (.string nRR)) ∧ Below w.heap.size w w' := by
  have := list_any nAB (by decide) w
  rw [show upsL nAB.data.toList = [nAB.data.toList, nBO.data.toList, nOO.data.toList, nRR.data.toList] from by decide +kernel] at this
  refine this.mono ?_
  rintro e w' ⟨A, c, rfl, h1, h2, h3⟩
  obtain ⟨g, cap, hv, hg, _, _, hc⟩ := h1.form (by decide)
  injection hv with hA _ _
  subst hA
  exact ⟨g, c, rfl, ⟨hg, hc 0 _ rfl, hc 3 _ rfl⟩, h3⟩
theorem c02g (w : World) : Calls Try.prog 37 #[.string ⟨#[1, 97, 1, 98, 3, 111, 114, 103, 0]⟩, .string ⟨#[1, 99, 1, 66, 3, 111, 114, 103, 0]⟩] w fun e w' => e = .returned (.bool true) ∧ Below w.heap.size w w' := by
  have := Less_any nAB nCB (by decide) (by decide) w
  rw [show lessP nAB.data.toList nCB.data.toList = true from by decide +kernel] at this
  exact this
theorem c02h (w : World) : Calls Try.prog 37 #[.string ⟨#[3, 111, 114, 103, 0]⟩, .string ⟨#[1, 97, 1, 98, 3, 111, 114, 103, 0]⟩] w fun e w' => e = .returned (.bool true) ∧ Below w.heap.size w w' := by
  have := Less_any nOO nAB (by decide) (by decide) w
  rw [show lessP nOO.data.toList nAB.data.toList = true from by decide +kernel] at this
  exact this
theorem c02i (w : World) : Calls Try.prog 37 #[.string ⟨#[1, 97, 1, 98, 3, 111, 114, 103, 0]⟩, .string ⟨#[1, 97, 1, 98, 3, 111, 114, 103, 0]⟩] w fun e w' => e = .returned (.bool false) ∧ Below w.heap.size w w' := by
  have := Less_any nAB nAB (by decide) (by decide) w
  rw [show lessP nAB.data.toList nAB.data.toList = false from by decide +kernel] at this
  exact this
theorem c02j (w : World) : Calls Try.prog 23 #[.string ⟨#[1, 97, 1, 98, 3, 111, 114, 103, 0]⟩, .string ⟨#[0]⟩] w fun e w' => e = .returned (.int .i64 3) ∧ Below w.heap.size w w' := by
  have := Depth_any nAB nRR (by decide) (by decide) w
  rw [show depthN nAB.data.toList nRR.data.toList = 3 from by decide +kernel] at this
  exact this
theorem c02k (w : World) : Calls Try.prog 23 #[.string ⟨#[3, 111, 114, 103, 0]⟩, .string ⟨#[1, 97, 1, 98, 3, 111, 114, 103, 0]⟩] w fun e w' => e = .returned (.int .i64 (-1)) ∧ Below w.heap.size w w' := by
  have := Depth_any nOO nAB (by decide) (by decide) w
  rw [show depthN nOO.data.toList nAB.data.toList = -1 from by decide +kernel] at this
  exact this
theorem c02l {w : World} {g : Nat} (h : Blk w g 9 #[.string nCB, .string nRR, .string nAB, .string nCB]) :
    Calls Try.prog 44 #[.slice (some ⟨g, 0, none⟩) 4 4] w fun e w' => ∃ b c, e = .returned (.slice (some ⟨b, 0, none⟩) 3 c) ∧ TTab w' (some ⟨b, 0, none⟩) ([nRR, nAB, nCB].map Value.string) ∧ Below w.heap.size w w' := by
  have := Sort_any stable_few [nCB, nRR, nAB, nCB] (some ⟨g, 0, none⟩) 4 w (ttab_new (xs := [nCB, nRR, nAB, nCB]) h) (by decide) (by decide) (by decide)
  rw [show sortN ([nCB, nRR, nAB, nCB].map fun x => x.data.toList) = [nRR.data.toList, nAB.data.toList, nCB.data.toList] from by decide +kernel] at this
  refine this.mono ?_
  rintro e w' ⟨A, c, rfl, h1, h2, h3⟩
  obtain ⟨g, cap, hv, hg, _⟩ := h1.form (by decide)
  injection hv with hA _ _
  subst hA
  exact ⟨g, c, rfl, sl_tt h1, h3⟩
theorem c02m {w : World} {b c g : Nat} (h1 : TTab w (some ⟨b, 0, none⟩) ([nRR, nAB, nCB].map Value.string)) (h : Blk w g 9 #[.string nRR, .string nAB, .string nCB]) :
    Calls Try.prog 39 #[.slice (some ⟨b, 0, none⟩) 3 c, .slice (some ⟨g, 0, none⟩) 3 3] w fun e w' => e = .returned (.bool true) ∧ Below w.heap.size w w' :=
  sameT_any [nRR, nAB, nCB] (some ⟨b, 0, none⟩) (some ⟨g, 0, none⟩) c 3 w h1 (ttab_new (xs := [nRR, nAB, nCB]) h) (by decide)
set_option maxHeartbeats 8000000 in
set_option maxRecDepth 100000 in
theorem lives02 (w : World) : Calls Try.prog 32 #[] w fun e w' => e = .returned (.bool true) ∧ Below w.heap.size w w' := by
  have hn1 : nAB.toList = [1, 97, 1, 98, 3, 111, 114, 103, 0] := by rw [ByteArray.toList_eq]; rfl
  have hn2 : nBO.toList = [1, 98, 3, 111, 114, 103, 0] := by rw [ByteArray.toList_eq]; rfl
  have hn3 : nOO.toList = [3, 111, 114, 103, 0] := by rw [ByteArray.toList_eq]; rfl
  have hn4 : nRR.toList = [0] := by rw [ByteArray.toList_eq]; rfl
  have L0 := Lib.hid (Below.refl w.heap.size w)
  go_enter Try.func32, Try.ntmps32
  go_wp2_with (fail)
  refine (c02a _).mono ?_
  rintro e w1 ⟨rfl, hb⟩
  have L1 := Lib.hid (L0.out.trans (hb.mono L0.out.size))
  clear hb
  go_wp2_with (fail)
  refine (c02b _).mono ?_
  rintro e w2 ⟨rfl, hb⟩
  have L2 := Lib.hid (L1.out.trans (hb.mono L1.out.size))
  clear hb
  go_wp2_with (fail)
  refine (c02c _).mono ?_
  rintro e w3 ⟨rfl, hb⟩
  have L3 := Lib.hid (L2.out.trans (hb.mono L2.out.size))
  clear hb
  go_wp2_with (fail)
  refine (c02d (Blk.new w3 _ _)).mono ?_
  rintro e w4 ⟨rfl, hb⟩
  have L4 := Lib.hid ((L3.out.alloc L3.out.size (.cells #[.string nRR, .string nOO, .string nCB] 9)).trans (hb.mono (by have := L3.out.size; simp; omega)))
  clear hb
  go_wp2_with (fail)
  refine (c02e (Blk.new w4 _ _)).mono ?_
  rintro e w5 ⟨rfl, hb⟩
  have L5 := Lib.hid ((L4.out.alloc L4.out.size (.cells #[.string nAB] 9)).trans (hb.mono (by have := L4.out.size; simp; omega)))
  clear hb
  go_wp2_with (fail)
  refine (c02f _).mono ?_
  rintro e w6 ⟨g6, c6, rfl, ⟨hg6, d0, d3⟩, hb⟩
  have L6 := Lib.hid (L5.out.trans (hb.mono L5.out.size))
  clear hb
  go_wp2_with (fail)
  refine (c02g _).mono ?_
  rintro e w7 ⟨rfl, hb⟩
  have L7 := Lib.hid (L6.out.trans (hb.mono L6.out.size))
  clear hb
  go_wp2_with (fail)
  refine (c02h _).mono ?_
  rintro e w8 ⟨rfl, hb⟩
  have L8 := Lib.hid (L7.out.trans (hb.mono L7.out.size))
  clear hb
  go_wp2_with (fail)
  refine (c02i _).mono ?_
  rintro e w9 ⟨rfl, hb⟩
  have L9 := Lib.hid (L8.out.trans (hb.mono L8.out.size))
  clear hb
  go_wp2_with (fail)
  refine (c02j _).mono ?_
  rintro e w10 ⟨rfl, hb⟩
  have L10 := Lib.hid (L9.out.trans (hb.mono L9.out.size))
  clear hb
  go_wp2_with (fail)
  refine (c02k _).mono ?_
  rintro e w11 ⟨rfl, hb⟩
  have L11 := Lib.hid (L10.out.trans (hb.mono L10.out.size))
  clear hb
  go_wp2_with (fail)
  refine (c02l (Blk.new w11 _ _)).mono ?_
  rintro e w12 ⟨b12, c12, rfl, hT, hb⟩
  have L12 := Lib.hid ((L11.out.alloc L11.out.size (.cells #[.string nCB, .string nRR, .string nAB, .string nCB] 9)).trans (hb.mono (by have := L11.out.size; simp; omega)))
  have HT := Lib.hid hT
  clear hb hT
  go_wp2_with (fail)
  refine (c02m (HT.out.below ((Below.refl _ _).alloc (Nat.le_refl _) _)) (Blk.new w12 _ _)).mono ?_
  rintro e w13 ⟨rfl, hb⟩
  have L13 := Lib.hid ((L12.out.alloc L12.out.size (.cells #[.string nRR, .string nAB, .string nCB] 9)).trans (hb.mono (by have := L12.out.size; simp; omega)))
  clear hb
  go_wp2_with (fail)
  go_ret
  exact ⟨rfl, L13.out⟩
end Go.Proofs.Ytjhhhkhcnohmiaa
