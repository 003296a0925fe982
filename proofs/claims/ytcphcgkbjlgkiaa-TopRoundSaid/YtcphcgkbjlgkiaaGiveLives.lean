/- The walk of give's Roll; hardtacklaw12.lives. -/
import Derived.Test.YtcphcgkbjlgkiaaVerify
import Derived.Test.YtcphcgkbjlgkiaaKeyedLives
namespace Go.Proofs.Ytcphcgkbjlgkiaa
open Go.RowKit

/-- Roll's answer. -/
def rollR (sn nx : ByteArray) : ByteArray × ByteArray × Int := if nx.size ≠ 16 then (⟨#[]⟩, ⟨#[]⟩, 2) else (nx, sn, 0)

set_option maxRecDepth 100000 in
theorem Roll_no (sn sw nx : ByteArray) (hm : nx.size ≤ maxLen) (h : nx.size ≠ 16) (w : World) :
    Calls Try.prog 37 #[.agg #[.string sn, .string sw], .string nx] w fun e w' => e = .returned (.tuple #[.agg #[.string ⟨#[]⟩, .string ⟨#[]⟩], .int .i64 2]) ∧ Below w.heap.size w w' := by
  have h16 : ((nx.size : Int) != 16) = true := by simp only [bne_iff_ne, ne_eq]; omega
  unfold maxLen at hm
  clear h
  go_enter Try.func37, Try.ntmps37
  go_wp2
  refine bodyPost_ret (v := .tuple #[.agg #[.string ⟨#[]⟩, .string ⟨#[]⟩], .int .i64 2]) (by simp [results, Try.results37, go_sem]) rfl ⟨rfl, ?_⟩
  exact box2_below _ _ _
set_option maxRecDepth 100000 in
theorem Roll_yes (sn sw nx : ByteArray) (h : nx.size = 16) (w : World) :
    Calls Try.prog 37 #[.agg #[.string sn, .string sw], .string nx] w fun e w' => e = .returned (.tuple #[.agg #[.string nx, .string sn], .int .i64 0]) ∧ Below w.heap.size w w' := by
  have h16 : ((nx.size : Int) != 16) = false := by simp [h]
  have hm : (nx.size : Int) ≤ 16 := by omega
  clear h
  go_enter Try.func37, Try.ntmps37
  go_wp2
  refine bodyPost_ret (v := .tuple #[.agg #[.string nx, .string sn], .int .i64 0]) (by simp [results, Try.results37, go_sem]) rfl ⟨rfl, ?_⟩
  exact box2_below _ _ _

/-! The first question's data -/
def kN : ByteArray := ⟨#[48, 49, 50, 51, 52, 53, 54, 55, 56, 57, 97, 98, 99, 100, 101, 103]⟩
def cX : ByteArray := ⟨#[99, 108, 105, 101, 110, 116, 120, 120]⟩
def tG : ByteArray := ⟨#[103, 105, 118, 101, 99, 108, 105, 101, 110, 116, 120, 120, 1, 0, 0, 0, 0, 0, 0, 100, 1, 2, 3, 4]⟩
def eG : Entry := ⟨kK, tG, 7⟩
def sC : ByteArray := ⟨#[1, 0, 0, 0, 0, 0, 0, 100, 7, 0, 0, 0, 0, 0, 0, 0]⟩
def sA : ByteArray := ⟨#[97, 98, 99]⟩
def sE : ByteArray := ⟨#[]⟩
theorem okG : eG.ok := by unfold Entry.ok; decide
theorem putG : putE [] kK tG = 0 := by unfold putE; rw [show sumE kK.data.toList tG.data.toList = 0 by decide]; rfl
theorem isG1 : Entry.is kK (gtext cX.data.toList (headL 100) 16909060) eG = true := by rw [is_data]; decide +kernel
theorem isG2 : Entry.is kN (gtext cX.data.toList (headL 100) 16909060) eG = false := by rw [is_data]; decide +kernel
theorem isG3 : Entry.is kK (gtext cX.data.toList (headL 100) 16909061) eG = false := by rw [is_data]; decide +kernel
theorem isG4 : Entry.is kN (gtext cX.data.toList (headL 100) 16909061) eG = false := by rw [is_data]; decide +kernel
theorem ckE1 : cookE kK cX.data.toList 16909060 100 = 0 := by decide +kernel
theorem ckE2 : cookE kN cX.data.toList 16909060 100 = 0 := by decide +kernel
theorem ckE3 : cookE kK cX.data.toList 16909061 100 = 0 := by decide +kernel
theorem ckE4 : cookE kN cX.data.toList 16909061 100 = 0 := by decide +kernel
theorem ckL1 : cookL true [eG] kK cX.data.toList 16909060 100 = sC.data.toList := by
  unfold cookL cookN ofN
  rw [if_pos ckE1, if_pos ⟨ckE1, rfl⟩]
  simp only [findN, List.find?_cons, isG1]
  decide +kernel
theorem ckL2 : cookL true [eG] kN cX.data.toList 16909060 100 ≠ sC.data.toList := by
  unfold cookL cookN ofN
  rw [if_pos ckE2, if_pos ⟨ckE2, rfl⟩]
  simp only [findN, List.find?_cons, isG2, List.find?_nil]
  decide +kernel
theorem ckL3 : cookL true [eG] kK cX.data.toList 16909061 100 ≠ sC.data.toList := by
  unfold cookL cookN ofN
  rw [if_pos ckE3, if_pos ⟨ckE3, rfl⟩]
  simp only [findN, List.find?_cons, isG3, List.find?_nil]
  decide +kernel
theorem ckL4 : cookL true [eG] kN cX.data.toList 16909061 100 ≠ sC.data.toList := by
  unfold cookL cookN ofN
  rw [if_pos ckE4, if_pos ⟨ckE4, rfl⟩]
  simp only [findN, List.find?_cons, isG4, List.find?_nil]
  decide +kernel
theorem stC : stampN sC.data.toList = 100 := by decide +kernel
theorem ver_body {sn sw : ByteArray} {a : Nat} {now : Int} : verR true [eG] sn sw cX.data.toList sC.data.toList a now =
    if freshN now 100 ≠ 0 then (false, 10) else
    if cookE sn cX.data.toList a 100 = 0 ∧ cookL true [eG] sn cX.data.toList a 100 = sC.data.toList then (decide (1800 < s32 (now - 100)), 0) else
    if cookE sw cX.data.toList a 100 = 0 ∧ cookL true [eG] sw cX.data.toList a 100 = sC.data.toList then (true, 0) else (false, 6) := by
  unfold verR
  rw [if_neg (by decide), if_neg (by decide), if_neg (by decide), stC]
  rfl
theorem VG1 : verR true [eG] kK sE cX.data.toList sC.data.toList 16909060 100 = (false, 0) := by
  rw [ver_body, if_neg (by decide), if_pos ⟨ckE1, ckL1⟩]; decide
theorem VG2 : verR true [eG] kN kK cX.data.toList sC.data.toList 16909060 200 = (true, 0) := by
  rw [ver_body, if_neg (by decide), if_neg (fun h => ckL2 h.2), if_pos ⟨ckE1, ckL1⟩]
theorem VG3 : verR true [eG] kN kK cX.data.toList sC.data.toList 16909061 200 = (false, 6) := by
  rw [ver_body, if_neg (by decide), if_neg (fun h => ckL4 h.2), if_neg (fun h => ckL3 h.2)]
theorem VG4 : verR true [eG] kN kK cX.data.toList sC.data.toList 16909060 3701 = (false, 10) := by
  rw [ver_body, if_pos (by decide)]
theorem VG5 : verR true [eG] kN kK cX.data.toList sE.data.toList 16909060 100 = (false, 3) := by
  unfold verR; rw [if_neg (by decide), if_pos (by decide)]
theorem VG6 : verR true [eG] kN kK cX.data.toList sA.data.toList 16909060 100 = (false, 2) := by
  unfold verR; rw [if_neg (by decide), if_neg (by decide), if_pos (by decide)]
theorem verG {sn sw s : ByteArray} {a : Nat} {now : Int} {r : Bool × Int} (h : verR true [eG] sn sw cX.data.toList s.data.toList a now = r) (ha : a < 4294967296) (h1 : s.size ≤ 100) (h2 : sn.size ≤ 100) (h3 : sw.size ≤ 100) (A : Option Addr) (n : Nat) (w : World) (hT : Tab w A [eG]) :
    Calls Try.prog 35 #[.agg #[.bool true, .slice A 1 n], .agg #[.string sn, .string sw], .string cX, .string s, .int .u32 (a : Int), .int .i64 now] w fun e w' => e = .returned (.tuple #[.bool r.1, .int .i64 r.2]) ∧ Below w.heap.size w w' := by
  have := Verify_any true [eG] A n sn sw cX s a now (by decide) (by unfold maxLen; omega) ha (by unfold maxLen; omega) (by unfold maxLen; omega) w hT (by decide)
  rw [h] at this
  exact this
theorem makeG (A : Option Addr) (n : Nat) (w : World) (hT : Tab w A [eG]) :
    Calls Try.prog 33 #[.agg #[.bool true, .slice A 1 n], .string kK, .string cX, .int .u32 16909060, .int .i64 100] w fun e w' => e = .returned (.tuple #[.string sC, .int .i64 0]) ∧ Below w.heap.size w w' := by
  have := Make_yes true [eG] A n kK cX 16909060 100 100 (by decide) (by decide) (by decide) (by decide) w hT (by decide)
  rw [ckL1, ckE1] at this
  exact this
theorem putG_any (w : World) : Calls Try.prog 16 #[.agg #[.bool false, .slice none 0 0], .string kK, .string tG, .int .u64 7] w (PutGives [eG] 1 w) :=
  (put_any false [] none 0 kK tG 7 w (tab_nil _ _) (by decide) (by decide) (by decide) ⟨by decide, by decide⟩).mono fun _ _ h => putGives h putG rfl
theorem rollG (w : World) : Calls Try.prog 37 #[.agg #[.string kK, .string ⟨#[]⟩], .string kN] w fun e w' => e = .returned (.tuple #[.agg #[.string kN, .string kK], .int .i64 0]) ∧ Below w.heap.size w w' :=
  Roll_yes kK ⟨#[]⟩ kN (by decide) w

set_option maxHeartbeats 4000000 in
set_option maxRecDepth 100000 in
theorem lives12 (w : World) : Calls Try.prog 32 #[] w fun e w' => e = .returned (.bool true) ∧ Below w.heap.size w w' := by
  go_enter Try.func32, Try.ntmps32
  go_wp2_with (fail)
  refine (putG_any _).mono ?_
  rintro e w1 ⟨A, c, rfl, hT1, hb1⟩
  have S1 := Lib.hid (St.start (n := 1) (c := c) hT1 hb1)
  clear hT1 hb1
  go_wp2_with (fail)
  refine (makeG _ _ _ S1.out.1).mono ?_
  rintro e w2 ⟨rfl, hb⟩
  have S2 := Lib.hid (St.next S1.out hb)
  have c0 : w2.cell? ⟨w1.heap.size, 0, none⟩ = some (.bool true) := S2.out.2.2.cell 0
  have c1 : w2.cell? ⟨w1.heap.size, 1, none⟩ = some (.slice A 1 c) := S2.out.2.2.cell 1
  clear hb
  go_wp2_with (fail)
  refine (rollG _).mono ?_
  rintro e w3 ⟨rfl, hb⟩
  have S3 := Lib.hid (St.next S2.out hb)
  have c0 : w3.cell? ⟨w1.heap.size, 0, none⟩ = some (.bool true) := S3.out.2.2.cell 0
  have c1 : w3.cell? ⟨w1.heap.size, 1, none⟩ = some (.slice A 1 c) := S3.out.2.2.cell 1
  have hl3 : w1.heap.size < w3.heap.size := S3.out.2.2.lt
  clear hb
  go_wp2_with (fail)
  have S3a := Lib.hid (St.alloc S3.out (.cells #[.string kN, .string kK] 59))
  have Z3 := Lib.hid (Blk.new w3 59 #[.string kN, .string kK])
  refine (verG (a := 16909060) (now := 100) VG1 (by decide) (by decide) (by decide) (by decide) _ _ _ S3a.out.1).mono ?_
  rintro e w4 ⟨rfl, hb⟩
  have S4 := Lib.hid (St.next S3a.out hb)
  have Z4 := Lib.hid (Z3.out.below hb (by simp))
  have c0 : w4.cell? ⟨w1.heap.size, 0, none⟩ = some (.bool true) := S4.out.2.2.cell 0
  have c1 : w4.cell? ⟨w1.heap.size, 1, none⟩ = some (.slice A 1 c) := S4.out.2.2.cell 1
  have d0 : w4.cell? ⟨w3.heap.size, 0, none⟩ = some (.string kN) := Z4.out.cell 0
  have d1 : w4.cell? ⟨w3.heap.size, 1, none⟩ = some (.string kK) := Z4.out.cell 1
  clear hb
  go_wp2_with (fail)
  refine (verG (a := 16909060) (now := 200) VG2 (by decide) (by decide) (by decide) (by decide) _ _ _ S4.out.1).mono ?_
  rintro e w5 ⟨rfl, hb⟩
  have S5 := Lib.hid (St.next S4.out hb)
  have Z5 := Lib.hid (Z4.out.below hb Z4.out.lt)
  have c0 : w5.cell? ⟨w1.heap.size, 0, none⟩ = some (.bool true) := S5.out.2.2.cell 0
  have c1 : w5.cell? ⟨w1.heap.size, 1, none⟩ = some (.slice A 1 c) := S5.out.2.2.cell 1
  have d0 : w5.cell? ⟨w3.heap.size, 0, none⟩ = some (.string kN) := Z5.out.cell 0
  have d1 : w5.cell? ⟨w3.heap.size, 1, none⟩ = some (.string kK) := Z5.out.cell 1
  clear hb
  go_wp2_with (fail)
  refine (verG (a := 16909061) (now := 200) VG3 (by decide) (by decide) (by decide) (by decide) _ _ _ S5.out.1).mono ?_
  rintro e w6 ⟨rfl, hb⟩
  have S6 := Lib.hid (St.next S5.out hb)
  have Z6 := Lib.hid (Z5.out.below hb Z5.out.lt)
  have c0 : w6.cell? ⟨w1.heap.size, 0, none⟩ = some (.bool true) := S6.out.2.2.cell 0
  have c1 : w6.cell? ⟨w1.heap.size, 1, none⟩ = some (.slice A 1 c) := S6.out.2.2.cell 1
  have d0 : w6.cell? ⟨w3.heap.size, 0, none⟩ = some (.string kN) := Z6.out.cell 0
  have d1 : w6.cell? ⟨w3.heap.size, 1, none⟩ = some (.string kK) := Z6.out.cell 1
  clear hb
  go_wp2_with (fail)
  refine (verG (a := 16909060) (now := 3701) VG4 (by decide) (by decide) (by decide) (by decide) _ _ _ S6.out.1).mono ?_
  rintro e w7 ⟨rfl, hb⟩
  have S7 := Lib.hid (St.next S6.out hb)
  have Z7 := Lib.hid (Z6.out.below hb Z6.out.lt)
  have c0 : w7.cell? ⟨w1.heap.size, 0, none⟩ = some (.bool true) := S7.out.2.2.cell 0
  have c1 : w7.cell? ⟨w1.heap.size, 1, none⟩ = some (.slice A 1 c) := S7.out.2.2.cell 1
  have d0 : w7.cell? ⟨w3.heap.size, 0, none⟩ = some (.string kN) := Z7.out.cell 0
  have d1 : w7.cell? ⟨w3.heap.size, 1, none⟩ = some (.string kK) := Z7.out.cell 1
  clear hb
  go_wp2_with (fail)
  refine (verG (a := 16909060) (now := 100) VG5 (by decide) (by decide) (by decide) (by decide) _ _ _ S7.out.1).mono ?_
  rintro e w8 ⟨rfl, hb⟩
  have S8 := Lib.hid (St.next S7.out hb)
  have Z8 := Lib.hid (Z7.out.below hb Z7.out.lt)
  have c0 : w8.cell? ⟨w1.heap.size, 0, none⟩ = some (.bool true) := S8.out.2.2.cell 0
  have c1 : w8.cell? ⟨w1.heap.size, 1, none⟩ = some (.slice A 1 c) := S8.out.2.2.cell 1
  have d0 : w8.cell? ⟨w3.heap.size, 0, none⟩ = some (.string kN) := Z8.out.cell 0
  have d1 : w8.cell? ⟨w3.heap.size, 1, none⟩ = some (.string kK) := Z8.out.cell 1
  clear hb
  go_wp2_with (fail)
  refine (verG (a := 16909060) (now := 100) VG6 (by decide) (by decide) (by decide) (by decide) _ _ _ S8.out.1).mono ?_
  rintro e w9 ⟨rfl, hb⟩
  have S9 := Lib.hid (St.next S8.out hb)
  have Z9 := Lib.hid (Z8.out.below hb Z8.out.lt)
  have c0 : w9.cell? ⟨w1.heap.size, 0, none⟩ = some (.bool true) := S9.out.2.2.cell 0
  have c1 : w9.cell? ⟨w1.heap.size, 1, none⟩ = some (.slice A 1 c) := S9.out.2.2.cell 1
  have d0 : w9.cell? ⟨w3.heap.size, 0, none⟩ = some (.string kN) := Z9.out.cell 0
  have d1 : w9.cell? ⟨w3.heap.size, 1, none⟩ = some (.string kK) := Z9.out.cell 1
  clear hb
  have q1 : (sC.toList == [1, 0, 0, 0, 0, 0, 0, 100, 7, 0, 0, 0, 0, 0, 0, 0]) = true := by rw [ByteArray.toList_eq]; decide
  have q2 : ∀ W : World, (binOp .eql 59 (.agg #[.string kN, .string kK]) (.agg #[.string ⟨#[48, 49, 50, 51, 52, 53, 54, 55, 56, 57, 97, 98, 99, 100, 101, 103]⟩, .string ⟨#[48, 49, 50, 51, 52, 53, 54, 55, 56, 57, 97, 98, 99, 100, 101, 102]⟩])).run Try.prog W = .ok (.bool true) W := fun _ => by kernel_rfl
  go_wp2_with (fail)
  go_ret
  exact ⟨rfl, S9.out.2.1⟩
end Go.Proofs.Ytcphcgkbjlgkiaa
