/- The walk of package label's Parent. -/
import Derived.Test.YtfipacfompihkaaCount
import Derived.Test.YtfipacfompihkaaLetters
namespace Go.Proofs.Ytfipacfompihkaa
open Go.RowKit Go.Shelf

/-- A name without its first label. -/
def parL (l : Bs) : Bs := l.drop (1 + (at0 l 0).toNat)

/-- A name that is not the root has a first label. -/
theorem name_first {l : Bs} (hn : isName l = true) (h1 : l ≠ [0]) : 0 < (labs l).1.length := by
  rcases Nat.eq_zero_or_pos (labs l).1.length with h | h
  · exfalso
    have h2 := isName_eq hn
    rw [List.eq_nil_of_length_eq_zero h] at h2
    exact h1 h2
  · exact h
theorem parL_labs {l : Bs} (hn : isName l = true) (h1 : l ≠ [0]) : parL l = mk ((labs l).1.drop 1) := by
  have h0 := name_first hn h1
  have hd := drop_pos l 1
  have hd0 := drop_pos l 0
  rw [pos_zero, List.drop_zero, List.drop_zero] at hd0
  rw [((isName_iff l).1 hn).2] at hd
  unfold mk
  rw [← hd]
  unfold parL
  congr 1
  obtain ⟨x, xs, hx⟩ : ∃ x xs, (labs l).1 = x :: xs := by
    cases h : (labs l).1 with
    | nil => rw [h] at h0; simp at h0
    | cons x xs => exact ⟨x, xs, rfl⟩
  have hok := labs_ok l x (by rw [hx]; simp)
  unfold okL at hok
  have h2 : at0 l 0 = UInt8.ofNat x.length := by
    have h := congrArg List.head? hd0
    simp only [hx, enc, List.cons_append, List.head?_cons] at h
    unfold at0
    rw [← List.head?_eq_getElem?, h]
    rfl
  rw [h2, UInt8.toNat_ofNat', pos_succ h0, pos_zero]
  have : ((labs l).1[0]).length = x.length := by simp only [hx, List.getElem_cons_zero]
  omega
theorem parL_name {l : Bs} (hn : isName l = true) (h1 : l ≠ [0]) : isName (parL l) = true := by
  rw [parL_labs hn h1]
  refine isName_mk (fun x hx => labs_ok l x (List.mem_of_mem_drop hx)) ?_
  rw [← parL_labs hn h1]
  have := ((isName_iff l).1 hn).1
  unfold parL
  simp; omega
theorem parL_namL {l : Bs} (hn : isName l = true) (h1 : l ≠ [0]) : (labs (parL l)).1 = (labs l).1.drop 1 := by
  rw [parL_labs hn h1, labs_mk (fun x hx => labs_ok l x (List.mem_of_mem_drop hx))]

set_option maxRecDepth 100000 in
set_option maxHeartbeats 1000000 in
theorem Parent_name (s : ByteArray) (hs : s.size ≤ maxLen) (hn : isName s.data.toList = true) (h1 : s.data.toList ≠ [0]) (w : World) :
    Calls Try.prog 108 #[.string s] w fun e w' => e = .returned (.tuple #[.string ⟨(parL s.data.toList).toArray⟩, .int .i64 0]) ∧ Below w.heap.size w w' := by
  have hC := fun W => Check_any s hs W
  have hc : chkN s.data.toList = 0 := by unfold chkN; rw [if_pos hn]
  rw [hc] at hC
  have HC := Lib.hid hC
  clear hC hc
  have hq : (s.toList == [0]) = false := by
    rw [ByteArray.toList_eq]
    simpa using h1
  have h0 := name_first hn h1
  obtain ⟨z, hq1, hw0, hz1, hz2, hz3, hz5⟩ := ends_step s 0 h0
  have hp0 : pos (labs s.data.toList).1 0 = 0 := pos_zero _
  rw [hp0] at hz1
  have hsz : 0 < s.size := by omega
  have hb : (s[0]'hsz).toNat = z := by
    have := hw0 hq1
    simpa only [hp0] using this
  have hat : (at0 s.data.toList 0).toNat = z := by rw [at0_byte s 0 hsz, hb]
  have hcut : s.extract (1 + z) s.size = ⟨(parL s.data.toList).toArray⟩ := by
    apply ByteArray.ext
    apply Array.toList_inj.1
    rw [ByteArray.data_extract, Array.toList_extract, List.extract_eq_take_drop]
    unfold parL
    rw [hat]
    exact List.take_of_length_le (by simp)
  have hw1 : wrap64 ((s[0]'hsz).toNat : Int) = (z : Int) := by rw [hb]; unfold wrap64; omega
  have b1 : (0 : Int) ≤ 1 + (z : Int) := by omega
  have b2 : 1 + (z : Int) ≤ (s.size : Int) := by omega
  have hw2 : wrap64 (1 + (z : Int)) = 1 + (z : Int) := by unfold wrap64; omega
  have HCUT := Lib.hid hcut
  clear hcut hat hb hp0 hz5 hz1 hz2 hz3 hw0 hq1 h0 h1 hn hs
  go_enter Try.func108, Try.ntmps108
  go_wp2_with (fail)
  refine (HC.out _).mono ?_
  rintro e w1 ⟨rfl, hb1⟩
  have HB := Lib.hid hb1
  clear hb1
  go_wp2_with (fail)
  refine bodyPost_ret (v := .tuple #[.string (s.extract (1 + z) s.size), .int .i64 0]) (by simp [results, Try.results108, go_sem]) rfl ?_
  rw [HCUT.out]
  exact ⟨rfl, HB.out⟩

set_option maxRecDepth 100000 in
set_option maxHeartbeats 1000000 in
theorem Parent_root (s : ByteArray) (hs : s.size ≤ maxLen) (h1 : s.data.toList = [0]) (w : World) :
    Calls Try.prog 108 #[.string s] w fun e w' => e = .returned (.tuple #[.string ⟨#[]⟩, .int .i64 3]) ∧ Below w.heap.size w w' := by
  have hC := fun W => Check_any s hs W
  have hc : chkN s.data.toList = 0 := by rw [h1]; decide
  rw [hc] at hC
  have HC := Lib.hid hC
  have hq : (s.toList == [0]) = true := by
    rw [ByteArray.toList_eq]
    simpa using h1
  clear hC hc h1
  go_enter Try.func108, Try.ntmps108
  go_wp2_with (fail)
  refine (HC.out _).mono ?_
  rintro e w1 ⟨rfl, hb1⟩
  have HB := Lib.hid hb1
  clear hb1
  go_wp2_with (fail)
  refine bodyPost_ret (v := .tuple #[.string ⟨#[]⟩, .int .i64 3]) (by simp [results, Try.results108, go_sem]) rfl ?_
  exact ⟨rfl, HB.out⟩

set_option maxRecDepth 100000 in
set_option maxHeartbeats 1000000 in
theorem Parent_no (s : ByteArray) (hs : s.size ≤ maxLen) (hn : isName s.data.toList = false) (w : World) :
    Calls Try.prog 108 #[.string s] w fun e w' => e = .returned (.tuple #[.string ⟨#[]⟩, .int .i64 2]) ∧ Below w.heap.size w w' := by
  have hC := fun W => Check_any s hs W
  have hc : chkN s.data.toList = 2 := by unfold chkN; rw [if_neg (by rw [hn]; simp)]
  rw [hc] at hC
  have HC := Lib.hid hC
  clear hC hc hn
  go_enter Try.func108, Try.ntmps108
  go_wp2_with (fail)
  refine (HC.out _).mono ?_
  rintro e w1 ⟨rfl, hb1⟩
  have HB := Lib.hid hb1
  clear hb1
  go_wp2_with (fail)
  refine bodyPost_ret (v := .tuple #[.string ⟨#[]⟩, .int .i64 2]) (by simp [results, Try.results108, go_sem]) rfl ?_
  exact ⟨rfl, HB.out⟩
end Go.Proofs.Ytfipacfompihkaa
