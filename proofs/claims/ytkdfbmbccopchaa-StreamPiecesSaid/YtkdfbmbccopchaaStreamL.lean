/- The walk of hardtacklaw30.lives. -/
import Derived.Test.YtkdfbmbccopchaaStreamG
import Derived.Laws.OwnMore
namespace Go.Proofs.Ytkdfbmbccopchaa
open Go.RowKit Go.Lib

theorem big_make (n : Nat) (hn : n ≤ 1000000) (w : World) : ∃ W' z, (Instr.makeSlice 87 (.int .i64 (n : Int)) (.int .i64 (n : Int))).run Try.prog w = .ok (.slice (some ⟨w.heap.size, 0, none⟩) n n) W' ∧
    (convert 87 9 (.slice (some ⟨w.heap.size, 0, none⟩) n n)).run Try.prog W' = .ok (.string z) W' ∧ z.size = n ∧ Below w.heap.size w W' := by
  obtain ⟨i, hi, hz0, hz1, hz2⟩ : ∃ i, Try.prog.info? 5 = some i ∧ i.zero = some (.int .u8 0) ∧ i.size = 1 ∧ i.bytes = 1 := by
    have h : (Try.prog.info? 5).map (fun i => (i.zero, i.size, i.bytes)) = some (some (.int .u8 0), 1, 1) := by kernel_rfl
    cases hi : Try.prog.info? 5 with
    | none => rw [hi] at h; cases h
    | some i =>
      rw [hi] at h
      simp only [Option.map_some, Option.some.injEq, Prod.mk.injEq] at h
      exact ⟨i, rfl, h.1, h.2.1, h.2.2⟩
  obtain ⟨W', hr, ho, hg⟩ := run_make_full (P := Try.prog) w w.heap.size 87 5 i (.int .u8 0) 1 Try.underlying87 hi hz0 hz1 .i64 .i64 n (by rw [hz2]; omega) (by unfold maxLen; omega) (Nat.le_refl _)
  refine ⟨W', ⟨(List.replicate n (0 : UInt8)).toArray⟩, hr, ?_, by simp [ByteArray.size], (Below.refl _ w).grown hg (Nat.le_refl _) (fun g hg => by simp at hg)⟩
  have hs := Sl.of_own ho
  have hx : (madeCells (Value.int .u8 0).cells (n * 1)).toList = (List.replicate n (0 : UInt8)).map b8 := by
    rw [Nat.mul_one]
    show (madeCells #[Value.int .u8 0] n).toList = _
    rw [toList_madeCells_one, List.map_replicate]
    rfl
  rw [hx] at hs
  have := run_convert_bytes_back (P := Try.prog) W' 87 9 5 ⟨w.heap.size, 0, none⟩ n (List.replicate n (0 : UInt8)) Try.underlying87 Try.underlying5 Try.underlying9 (fun j hj => by
    have ea : (⟨w.heap.size, 0, none⟩ : Addr).add j = ⟨w.heap.size, j, none⟩ := by unfold Addr.add; split <;> simp_all
    rw [ea]
    exact hs.cell rfl (by rw [List.getElem?_map, List.getElem?_eq_getElem hj]; rfl))
  rw [List.length_replicate] at this
  exact this

theorem cFr (w : World) : Calls Try.prog 39 #[.string ⟨#[97, 98, 99]⟩] w fun e w' => e = .returned (.tuple #[.string ⟨#[0, 3, 97, 98, 99]⟩, .int .i64 0]) ∧ Below w.heap.size w w' :=
  sFrame_any ⟨#[97, 98, 99]⟩ (by decide) w
theorem cFr2 (z : ByteArray) (hz : z.size = 65536) (w : World) : Calls Try.prog 39 #[.string z] w fun e w' => e = .returned (.tuple #[.string ⟨#[]⟩, .int .i64 7]) ∧ Below w.heap.size w w' := by
  have := sFrame_any z (by rw [hz]; decide) w
  rw [show frameV z = (⟨#[]⟩, 7) from if_pos (by omega)] at this
  exact this
theorem cFeed1 (K : Nat → Prop) (b : Nat) (w : World) (h : SW K b [] w) : Calls Try.prog 46 #[.pointer (some ⟨b, 0, none⟩), .string ⟨#[0, 3, 97, 98]⟩] w fun e w' => ∃ A c, e = .returned (.tuple #[.slice A 0 c, .int .i64 0]) ∧ SW K b [0, 3, 97, 98] w' ∧ KeepK K w w' := by
  have := Feed_fits K b [] ⟨#[0, 3, 97, 98]⟩ w h (by decide)
  rw [show mss ([] ++ (⟨#[0, 3, 97, 98]⟩ : ByteArray).data.toList) = ([], [0, 3, 97, 98]) from by decide +kernel] at this
  exact this.mono fun e w' ⟨A, c, he, _, h1, h2⟩ => ⟨A, c, he, h1, h2⟩
theorem cFeed2 (K : Nat → Prop) (b : Nat) (w : World) (h : SW K b [0, 3, 97, 98] w) : Calls Try.prog 46 #[.pointer (some ⟨b, 0, none⟩), .string ⟨#[99, 0, 0, 1]⟩] w fun e w' => ∃ A c, e = .returned (.tuple #[.slice A 2 c, .int .i64 0]) ∧ TTab w' A [.string ⟨#[97, 98, 99]⟩, .string ⟨#[]⟩] ∧ SW K b [1] w' ∧ KeepK K w w' := by
  have := Feed_fits K b [0, 3, 97, 98] ⟨#[99, 0, 0, 1]⟩ w h (by decide)
  rw [show mss ([0, 3, 97, 98] ++ (⟨#[99, 0, 0, 1]⟩ : ByteArray).data.toList) = ([[97, 98, 99], []], [1]) from by decide +kernel] at this
  exact this.mono fun e w' ⟨A, c, he, hs, h1, h2⟩ => ⟨A, c, he, ttab_of_sl (xs := [.string ⟨#[97, 98, 99]⟩, .string ⟨#[]⟩]) hs, h1, h2⟩
theorem cSpl (w : World) : Calls Try.prog 41 #[.string ⟨#[0, 1, 97, 0, 2, 98]⟩] w fun e w' => ∃ A c, e = .returned (.tuple #[.slice A 1 c, .string ⟨#[0, 2, 98]⟩]) ∧ TTab w' A [.string ⟨#[97]⟩] ∧ Below w.heap.size w w' := by
  have := Split_any ⟨#[0, 1, 97, 0, 2, 98]⟩ (by decide) w
  unfold SplitPost at this
  rw [show mss (⟨#[0, 1, 97, 0, 2, 98]⟩ : ByteArray).data.toList = ([[97]], [0, 2, 98]) from by decide +kernel] at this
  exact this.mono fun e w' ⟨A, c, he, hs, _, h2⟩ => ⟨A, c, he, ttab_of_sl (xs := [.string ⟨#[97]⟩]) hs, h2⟩
/-- A slice that was built out of constants. -/
theorem ttab_blk {w : World} {g : Nat} {t : TypeId} {cs : Array Value} (h : Blk w g t cs) : TTab w (some ⟨g, 0, none⟩) cs.toList := fun _ =>
  ⟨g, 0, rfl, h.lt, fun j u hu => by rw [Nat.zero_add, h.cell j]; simpa using hu⟩
theorem cSm1 {A B : Option Addr} {c d : Nat} {w : World} (hA : TTab w A [.string ⟨#[97, 98, 99]⟩, .string ⟨#[]⟩]) (hB : TTab w B [.string ⟨#[97, 98, 99]⟩, .string ⟨#[]⟩]) : Calls Try.prog 43 #[.slice A 2 c, .slice B 2 d] w fun e w' => e = .returned (.bool true) ∧ Below w.heap.size w w' :=
  sameT_any [⟨#[97, 98, 99]⟩, ⟨#[]⟩] A B c d w hA hB (by decide)
theorem cSm2 {A B : Option Addr} {c d : Nat} {w : World} (hA : TTab w A [.string ⟨#[97]⟩]) (hB : TTab w B [.string ⟨#[97]⟩]) : Calls Try.prog 43 #[.slice A 1 c, .slice B 1 d] w fun e w' => e = .returned (.bool true) ∧ Below w.heap.size w w' :=
  sameT_any [⟨#[97]⟩] A B c d w hA hB (by decide)
theorem cWt {K : Nat → Prop} {b : Nat} {l : List UInt8} {w : World} (h : SW K b l w) : Calls Try.prog 47 #[.pointer (some ⟨b, 0, none⟩)] w fun e w' => e = .returned (.int .i64 (l.length : Int)) ∧ w = w' := by
  obtain ⟨_, A, c, h1, _, _⟩ := h
  exact sWaits_any w b A l.length c h1

set_option maxHeartbeats 8000000 in
set_option maxRecDepth 100000 in
theorem lives30 (w : World) : Calls Try.prog 38 #[] w fun e w' => e = .returned (.bool true) ∧ Below w.heap.size w w' := by
  go_enter Try.func38, Try.ntmps38
  go_wp2_with (fail)
  refine (cFr _).mono ?_
  rintro e w1 ⟨rfl, hb⟩
  have L1 := Lib.hid hb
  obtain ⟨W2, z, hmk, hcv, hz, hb2⟩ := big_make 65536 (by decide) w1
  have L2 := Lib.hid (L1.out.trans (hb2.mono L1.out.size))
  have HZ := Lib.hid hz
  have hmk' : (Instr.makeSlice 87 (.int .i64 65536) (.int .i64 65536)).run Try.prog w1 = .ok (.slice (some ⟨w1.heap.size, 0, none⟩) 65536 65536) W2 := hmk
  clear hb hb2 hz hmk
  go_wp2_with (fail)
  clear hmk' hcv
  refine (cFr2 z HZ.out _).mono ?_
  rintro e w3 ⟨rfl, hb⟩
  have L3 := Lib.hid (L2.out.trans (hb.mono L2.out.size))
  clear hb
  go_wp2_with (fail)
  refine (sNew_any _).mono ?_
  rintro e w4 ⟨rfl, rfl⟩
  have S0 := Lib.hid (SW.start w3)
  have L4 := Lib.hid (L3.out.alloc L3.out.size (.cells #[.slice none 0 0] 127))
  go_wp2_with (fail)
  refine (cFeed1 _ _ _ S0.out).mono ?_
  rintro e w5 ⟨A1, c1, rfl, h5, hk⟩
  have S1 := Lib.hid h5
  have L5 := Lib.hid (L4.out.trans (hk.below (B := w.heap.size) fun i hi => Nat.lt_of_lt_of_le hi L3.out.size))
  clear h5 hk
  go_wp2_with (fail)
  refine (cFeed2 _ _ _ S1.out).mono ?_
  rintro e w6 ⟨A2, c2, rfl, hT, h5, hk⟩
  have S2 := Lib.hid h5
  have T2 := Lib.hid hT
  have L6 := Lib.hid (L5.out.trans (hk.below (B := w.heap.size) fun i hi => Nat.lt_of_lt_of_le hi L3.out.size))
  clear h5 hk hT
  go_wp2_with (fail)
  refine (cSpl _).mono ?_
  rintro e w7 ⟨A3, c3, rfl, hT, hb⟩
  have S3 := Lib.hid (S2.out.next hb)
  have T3 := Lib.hid (T2.out.below hb)
  have T4 := Lib.hid hT
  have L7 := Lib.hid (L6.out.trans (hb.mono L6.out.size))
  clear hb hT
  go_wp2_with (fail)
  refine (cSm1 (T3.out.below ((Below.refl _ _).alloc (Nat.le_refl _) _)) (ttab_blk (Blk.new w7 9 #[.string ⟨#[97, 98, 99]⟩, .string ⟨#[]⟩]))).mono ?_
  rintro e w8 ⟨rfl, hb⟩
  have hb' : Below w7.heap.size w7 w8 := (((Below.refl _ w7).alloc (Nat.le_refl _) _).trans (hb.mono (by simp)))
  have S4 := Lib.hid (S3.out.next hb')
  have T5 := Lib.hid (T4.out.below hb')
  have L8 := Lib.hid (L7.out.trans (hb'.mono L7.out.size))
  clear hb hb'
  go_wp2_with (fail)
  refine (cWt S4.out).mono ?_
  rintro e w9 ⟨rfl, rfl⟩
  go_wp2_with (fail)
  refine (cSm2 (T5.out.below ((Below.refl _ _).alloc (Nat.le_refl _) _)) (ttab_blk (Blk.new w8 9 #[.string ⟨#[97]⟩]))).mono ?_
  rintro e w10 ⟨rfl, hb⟩
  have hb' : Below w8.heap.size w8 w10 := (((Below.refl _ w8).alloc (Nat.le_refl _) _).trans (hb.mono (by simp)))
  have L9 := Lib.hid (L8.out.trans (hb'.mono L8.out.size))
  clear hb hb'
  go_wp2_with (fail)
  go_ret
  exact ⟨rfl, L9.out⟩
end Go.Proofs.Ytkdfbmbccopchaa
