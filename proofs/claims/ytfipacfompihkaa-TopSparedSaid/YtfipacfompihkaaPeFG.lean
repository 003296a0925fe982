/- The walks of Fail and Good, where one peer at most is known. Conditions: none. -/
import Derived.Test.YtfipacfompihkaaPeNote
namespace Go.Proofs.Ytfipacfompihkaa
open Go.RowKit Go.Lib

theorem P0.below {w w' : World} {g mb n : Nat} (h : P0 w g mb n) (hb : Below w.heap.size w w') : P0 w' g mb n := by
  obtain ⟨F, m1, m2⟩ := h.mp
  exact ⟨h.bx.below hb h.bx.lt, ⟨F, m1.below hb m1.lt, m2⟩, h.ne⟩
theorem P1.below {w w' : World} {g mb nb n : Nat} {a f r : Int} (h : P1 w g mb nb n a f r) (hb : Below w.heap.size w w') : P1 w' g mb nb n a f r := by
  obtain ⟨F, m1, m2⟩ := h.mp
  exact ⟨h.bx.below hb h.bx.lt, Blk.below h.no hb h.no.lt, ⟨F, m1.below hb m1.lt, m2⟩, h.ne⟩
theorem P0.lt {w : World} {g mb n : Nat} (h : P0 w g mb n) : g < w.heap.size ∧ mb < w.heap.size := by
  obtain ⟨F, m1, m2⟩ := h.mp
  exact ⟨h.bx.lt, m1.lt⟩
theorem P1.lt {w : World} {g mb nb n : Nat} {a f r : Int} (h : P1 w g mb nb n a f r) : g < w.heap.size ∧ mb < w.heap.size ∧ nb < w.heap.size := by
  obtain ⟨F, m1, m2⟩ := h.mp
  exact ⟨h.bx.lt, m1.lt, h.no.lt⟩
set_option maxRecDepth 100000 in
theorem good0_any {w : World} {g mb : Nat} (h : P0 w g mb 0) (a : Int) (ha : 0 ≤ a ∧ a ≤ 4294967295) :
    Calls Try.prog 13 #[.pointer (some ⟨g, 0, none⟩), .int .u32 a] w (NoteP w g mb 0 a fun f r => f = 0 ∧ r = 0) := by
  have HN := Lib.hid (noteGood0 h a ha)
  clear h
  go_enter Try.func13, Try.ntmps13
  go_wp2_with (fail)
  with_reducible refine HN.out.mono ?_
  rintro e w1 ⟨rfl, h1, h2⟩
  have H := Lib.hid (And.intro h1 h2)
  clear h1 h2
  go_wp2_with (fail)
  go_ret
  exact ⟨rfl, H.out.1, H.out.2⟩
set_option maxRecDepth 100000 in
theorem good1p_any {w : World} {g mb nb n : Nat} {a f0 r0 : Int} (h : P1 w g mb nb n a f0 r0) (hn : n < 100000) (ha : 0 ≤ a ∧ a ≤ 4294967295) :
    Calls Try.prog 13 #[.pointer (some ⟨g, 0, none⟩), .int .u32 a] w fun e w' => e = .returned (.bool true) ∧ (∃ f r, P1 w' g mb nb (n + 1) a f r ∧ f = 0 ∧ r = 0) ∧ KeepK (fun i => i < w.heap.size ∧ i ≠ g ∧ i ≠ mb ∧ i ≠ nb) w w' := by
  have HN := Lib.hid (noteGood1 h hn ha)
  clear h
  go_enter Try.func13, Try.ntmps13
  go_wp2_with (fail)
  with_reducible refine HN.out.mono ?_
  rintro e w1 ⟨rfl, h1, h2⟩
  have H := Lib.hid (And.intro h1 h2)
  clear h1 h2
  go_wp2_with (fail)
  go_ret
  exact ⟨rfl, H.out.1, H.out.2⟩
set_option maxRecDepth 100000 in
theorem fail0_any {w : World} {g mb : Nat} (h : P0 w g mb 0) (a now : Int) (ha : 0 ≤ a ∧ a ≤ 4294967295) (hnow : 0 ≤ now ∧ now ≤ 1099511627776) :
    Calls Try.prog 9 #[.pointer (some ⟨g, 0, none⟩), .int .u32 a, .int .i64 now] w (NoteP w g mb 0 a fun f r => (0 ≤ f ∧ f ≤ 30) ∧ now < r ∧ r ≤ now + 900) := by
  have L := h.lt
  have hb : Below w.heap.size w (w.alloc (.cells #[.int .i64 now] 2)) := (Below.refl _ _).alloc (Nat.le_refl _) _
  have HN := Lib.hid (noteFail0 (h.below hb) a ha w.heap.size now hnow ((Blk.new w 2 #[.int .i64 now]).cell 0) ⟨by simp, by omega, by omega⟩)
  have HB := Lib.hid hb
  clear h hb
  go_enter Try.func9, Try.ntmps9
  go_wp2_with (fail)
  with_reducible refine HN.out.mono ?_
  rintro e w1 ⟨rfl, ⟨nb, f, r, h1, h1b, h1c⟩, h2⟩
  have H := Lib.hid (And.intro h1 (And.intro h1b (And.intro h1c h2)))
  clear h1 h1b h1c h2
  go_wp2_with (fail)
  go_ret
  have z := HB.out.size
  exact ⟨rfl, ⟨nb, f, r, H.out.1, H.out.2.1, Nat.le_trans z H.out.2.2.1⟩, (KeepK.of_below HB.out fun i hi => hi.1).trans (KeepK.mono H.out.2.2.2 fun i hi => ⟨Nat.lt_of_lt_of_le hi.1 z, hi.2⟩)⟩
set_option maxRecDepth 100000 in
theorem fail1p_any {w : World} {g mb nb n : Nat} {a f0 r0 : Int} (h : P1 w g mb nb n a f0 r0) (hn : n < 100000) (now : Int) (ha : 0 ≤ a ∧ a ≤ 4294967295) (hf : 0 ≤ f0 ∧ f0 ≤ 30) (hnow : 0 ≤ now ∧ now ≤ 1099511627776) :
    Calls Try.prog 9 #[.pointer (some ⟨g, 0, none⟩), .int .u32 a, .int .i64 now] w fun e w' => e = .returned (.bool true) ∧ (∃ f r, P1 w' g mb nb (n + 1) a f r ∧ (0 ≤ f ∧ f ≤ 30) ∧ now < r ∧ r ≤ now + 900) ∧ KeepK (fun i => i < w.heap.size ∧ i ≠ g ∧ i ≠ mb ∧ i ≠ nb) w w' := by
  have L := h.lt
  have hb : Below w.heap.size w (w.alloc (.cells #[.int .i64 now] 2)) := (Below.refl _ _).alloc (Nat.le_refl _) _
  have HN := Lib.hid (noteFail1 (h.below hb) hn ha hf w.heap.size now hnow ((Blk.new w 2 #[.int .i64 now]).cell 0) ⟨by simp, by omega, by omega, by omega⟩)
  have HB := Lib.hid hb
  clear h hb
  go_enter Try.func9, Try.ntmps9
  go_wp2_with (fail)
  with_reducible refine HN.out.mono ?_
  rintro e w1 ⟨rfl, h1, h2⟩
  have H := Lib.hid (And.intro h1 h2)
  clear h1 h2
  go_wp2_with (fail)
  go_ret
  have z := HB.out.size
  exact ⟨rfl, H.out.1, (KeepK.of_below HB.out fun i hi => hi.1).trans (KeepK.mono H.out.2 fun i hi => ⟨Nat.lt_of_lt_of_le hi.1 z, hi.2⟩)⟩
end Go.Proofs.Ytfipacfompihkaa
