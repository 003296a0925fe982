/- The walk of package label's Parent. The walks of package walk's Depth and Up, as an iterator. The walk of package walk's Up, as an iterator. -/
import Derived.Test.YthnngndnpigjbaaGreatCount
import Derived.Test.YthnngndnpigjbaaGreatLetters
import Derived.Test.YthnngndnpigjbaaGreatWithin
namespace Go.Proofs.YthnngndnpigjbaaGreat
open Go.RowKit Go.Shelf

/-- A name without its first label. -/
def parL (l : Bs) : Bs := l.drop (1 + (at0 l 0).toNat)

/-- A name that is not the root has a first label. -/
theorem name_first {l : Bs} (hn : isName l = true) (h1 : l ≠ [0]) : 0 < (labs l).1.length := by
  rcases Nat.eq_zero_or_pos (labs l).1.length with h | h
  · exfalso
    have h2 := isName_eq hn
    rw [List.eq_nil_of_length_eq_zero h] at h2
    exact h1 h2
  · exact h
theorem parL_labs {l : Bs} (hn : isName l = true) (h1 : l ≠ [0]) : parL l = mk ((labs l).1.drop 1) := by
  have h0 := name_first hn h1
  have hd := drop_pos l 1
  have hd0 := drop_pos l 0
  rw [pos_zero, List.drop_zero, List.drop_zero] at hd0
  rw [((isName_iff l).1 hn).2] at hd
  unfold mk
  rw [← hd]
  unfold parL
  congr 1
  obtain ⟨x, xs, hx⟩ : ∃ x xs, (labs l).1 = x :: xs := by
    cases h : (labs l).1 with
    | nil => rw [h] at h0; simp at h0
    | cons x xs => exact ⟨x, xs, rfl⟩
  have hok := labs_ok l x (by rw [hx]; simp)
  unfold okL at hok
  have h2 : at0 l 0 = UInt8.ofNat x.length := by
    have h := congrArg List.head? hd0
    simp only [hx, enc, List.cons_append, List.head?_cons] at h
    unfold at0
    rw [← List.head?_eq_getElem?, h]
    rfl
  rw [h2, UInt8.toNat_ofNat', pos_succ h0, pos_zero]
  have : ((labs l).1[0]).length = x.length := by simp only [hx, List.getElem_cons_zero]
  omega
theorem parL_name {l : Bs} (hn : isName l = true) (h1 : l ≠ [0]) : isName (parL l) = true := by
  rw [parL_labs hn h1]
  refine isName_mk (fun x hx => labs_ok l x (List.mem_of_mem_drop hx)) ?_
  rw [← parL_labs hn h1]
  have := ((isName_iff l).1 hn).1
  unfold parL
  simp; omega
theorem parL_namL {l : Bs} (hn : isName l = true) (h1 : l ≠ [0]) : (labs (parL l)).1 = (labs l).1.drop 1 := by
  rw [parL_labs hn h1, labs_mk (fun x hx => labs_ok l x (List.mem_of_mem_drop hx))]

set_option maxRecDepth 100000 in
set_option maxHeartbeats 1000000 in
theorem Parent_name (s : ByteArray) (hs : s.size ≤ maxLen) (hn : isName s.data.toList = true) (h1 : s.data.toList ≠ [0]) (w : World) :
    Calls Tryz.prog 89 #[.string s] w fun e w' => e = .returned (.tuple #[.string ⟨(parL s.data.toList).toArray⟩, .int .i64 0]) ∧ Below w.heap.size w w' := by
  have hC := fun W => Check_any s hs W
  have hc : chkN s.data.toList = 0 := by unfold chkN; rw [if_pos hn]
  rw [hc] at hC
  have HC := Lib.hid hC
  clear hC hc
  have hq : (s.toList == [0]) = false := by
    rw [ByteArray.toList_eq]
    simpa using h1
  have h0 := name_first hn h1
  obtain ⟨z, hq1, hw0, hz1, hz2, hz3, hz5⟩ := ends_step s 0 h0
  have hp0 : pos (labs s.data.toList).1 0 = 0 := pos_zero _
  rw [hp0] at hz1
  have hsz : 0 < s.size := by omega
  have hb : (s[0]'hsz).toNat = z := by
    have := hw0 hq1
    simpa only [hp0] using this
  have hat : (at0 s.data.toList 0).toNat = z := by rw [at0_byte s 0 hsz, hb]
  have hcut : s.extract (1 + z) s.size = ⟨(parL s.data.toList).toArray⟩ := by
    apply ByteArray.ext
    apply Array.toList_inj.1
    rw [ByteArray.data_extract, Array.toList_extract, List.extract_eq_take_drop]
    unfold parL
    rw [hat]
    exact List.take_of_length_le (by simp)
  have hw1 : wrap64 ((s[0]'hsz).toNat : Int) = (z : Int) := by rw [hb]; unfold wrap64; omega
  have b1 : (0 : Int) ≤ 1 + (z : Int) := by omega
  have b2 : 1 + (z : Int) ≤ (s.size : Int) := by omega
  have hw2 : wrap64 (1 + (z : Int)) = 1 + (z : Int) := by unfold wrap64; omega
  have HCUT := Lib.hid hcut
  clear hcut hat hb hp0 hz5 hz1 hz2 hz3 hw0 hq1 h0 h1 hn hs
  go_enter Tryz.func89, Tryz.ntmps89
  go_wp2_with (fail)
  refine (HC.out _).mono ?_
  rintro e w1 ⟨rfl, hb1⟩
  have HB := Lib.hid hb1
  clear hb1
  go_wp2_with (fail)
  refine bodyPost_ret (v := .tuple #[.string (s.extract (1 + z) s.size), .int .i64 0]) (by simp [results, Tryz.results89, go_sem]) rfl ?_
  rw [HCUT.out]
  exact ⟨rfl, HB.out⟩

set_option maxRecDepth 100000 in
set_option maxHeartbeats 1000000 in
theorem Parent_root (s : ByteArray) (hs : s.size ≤ maxLen) (h1 : s.data.toList = [0]) (w : World) :
    Calls Tryz.prog 89 #[.string s] w fun e w' => e = .returned (.tuple #[.string ⟨#[]⟩, .int .i64 3]) ∧ Below w.heap.size w w' := by
  have hC := fun W => Check_any s hs W
  have hc : chkN s.data.toList = 0 := by rw [h1]; decide
  rw [hc] at hC
  have HC := Lib.hid hC
  have hq : (s.toList == [0]) = true := by
    rw [ByteArray.toList_eq]
    simpa using h1
  clear hC hc h1
  go_enter Tryz.func89, Tryz.ntmps89
  go_wp2_with (fail)
  refine (HC.out _).mono ?_
  rintro e w1 ⟨rfl, hb1⟩
  have HB := Lib.hid hb1
  clear hb1
  go_wp2_with (fail)
  refine bodyPost_ret (v := .tuple #[.string ⟨#[]⟩, .int .i64 3]) (by simp [results, Tryz.results89, go_sem]) rfl ?_
  exact ⟨rfl, HB.out⟩

set_option maxRecDepth 100000 in
set_option maxHeartbeats 1000000 in
theorem Parent_no (s : ByteArray) (hs : s.size ≤ maxLen) (hn : isName s.data.toList = false) (w : World) :
    Calls Tryz.prog 89 #[.string s] w fun e w' => e = .returned (.tuple #[.string ⟨#[]⟩, .int .i64 2]) ∧ Below w.heap.size w w' := by
  have hC := fun W => Check_any s hs W
  have hc : chkN s.data.toList = 2 := by unfold chkN; rw [if_neg (by rw [hn]; simp)]
  rw [hc] at hC
  have HC := Lib.hid hC
  clear hC hc hn
  go_enter Tryz.func89, Tryz.ntmps89
  go_wp2_with (fail)
  refine (HC.out _).mono ?_
  rintro e w1 ⟨rfl, hb1⟩
  have HB := Lib.hid hb1
  clear hb1
  go_wp2_with (fail)
  refine bodyPost_ret (v := .tuple #[.string ⟨#[]⟩, .int .i64 2]) (by simp [results, Tryz.results89, go_sem]) rfl ?_
  exact ⟨rfl, HB.out⟩
end Go.Proofs.YthnngndnpigjbaaGreat

namespace Go.Proofs.YthnngndnpigjbaaGreat
open Go.RowKit Go.Shelf
attribute [local go_sem] Oper.semAt_some

/-- How many labels the first has more than the second; -1: it does not lie within it. -/
def depthN (a z : Bs) : Int := if withinB a z = true then ((namL a).length : Int) - ((namL z).length : Int) else -1

set_option maxRecDepth 100000 in
set_option maxHeartbeats 1000000 in
theorem Depth_any (a z : ByteArray) (ha : a.size ≤ maxLen) (hz : z.size ≤ maxLen) (w : World) :
    Calls Tryz.prog 44 #[.string a, .string z] w fun e w' => e = .returned (.int .i64 (depthN a.data.toList z.data.toList)) ∧ Below w.heap.size w w' := by
  have HW := Lib.hid (fun W => Within_any a z ha hz W)
  have HA := Lib.hid (fun W => Count_any a ha W)
  have HZ := Lib.hid (fun W => Count_any z hz W)
  have h1 : (namL a.data.toList).length ≤ a.size := by have := namL_length_le a.data.toList; simpa using this
  have h2 : (namL z.data.toList).length ≤ z.size := by have := namL_length_le z.data.toList; simpa using this
  unfold maxLen at ha hz
  unfold depthN
  generalize (namL a.data.toList).length = k at HA h1 ⊢
  generalize (namL z.data.toList).length = j at HZ h2 ⊢
  generalize withinB a.data.toList z.data.toList = b at HW ⊢
  have hw : wrap64 ((k : Int) - (j : Int)) = (k : Int) - (j : Int) := by unfold wrap64; omega
  have b1 : -9223372036854775808 ≤ (k : Int) - (j : Int) := by omega
  have b2 : (k : Int) - (j : Int) ≤ 9223372036854775807 := by omega
  clear h1 h2 ha hz
  cases b with
  | false =>
    clear hw b1 b2
    go_enter Tryz.func44, Tryz.ntmps44
    go_wp2_with (fail)
    refine (HW.out _).mono ?_
    rintro e w1 ⟨rfl, hb1⟩
    have B1 := Lib.hid hb1
    clear hb1
    go_wp2_with (fail)
    go_ret
    exact ⟨rfl, B1.out⟩
  | true =>
    go_enter Tryz.func44, Tryz.ntmps44
    go_wp2_with (fail)
    refine (HW.out _).mono ?_
    rintro e w1 ⟨rfl, hb1⟩
    have B1 := Lib.hid hb1
    clear hb1
    go_wp2_with (fail)
    refine (HA.out _).mono ?_
    rintro e w2 ⟨rfl, hb2⟩
    have B2 := Lib.hid (B1.out.trans (hb2.mono B1.out.size))
    clear hb2
    go_wp2_with (fail)
    refine (HZ.out _).mono ?_
    rintro e w3 ⟨rfl, hb3⟩
    have B3 := Lib.hid (B2.out.trans (hb3.mono B2.out.size))
    clear hb3
    go_wp2_with (fail)
    go_ret
    exact ⟨rfl, B3.out⟩
end Go.Proofs.YthnngndnpigjbaaGreat

namespace Go.Proofs.YthnngndnpigjbaaGreat
open Go.RowKit Go.Shelf
attribute [local go_sem] Oper.semAt_some

/-- A name, its parent, and so on, the root last. -/
def upsL (l : Bs) : List Bs := if isName l = true then (List.range ((labs l).1.length + 1)).map fun k => l.drop (pos (labs l).1 k) else []
theorem ups_yes {l : Bs} (h : isName l = true) : upsL l = (List.range ((labs l).1.length + 1)).map fun k => l.drop (pos (labs l).1 k) := if_pos h
theorem ups_length {l : Bs} (h : isName l = true) : (upsL l).length = (labs l).1.length + 1 := by rw [ups_yes h]; simp
theorem ups_at {l : Bs} (h : isName l = true) {k : Nat} (hk : k < (labs l).1.length + 1) : (upsL l).take k ++ [l.drop (pos (labs l).1 k)] = (upsL l).take (k + 1) := by
  have hl : k < (upsL l).length := by rw [ups_length h]; exact hk
  rw [List.take_succ_eq_append_getElem hl]
  congr 2
  simp [ups_yes h]
theorem drop_root {l : Bs} (h : isName l = true) (k : Nat) : l.drop (pos (labs l).1 k) = [0] ↔ (labs l).1.length ≤ k := by
  have h1 := isName_eq (drop_name h k)
  rw [drop_labs h] at h1
  constructor
  · intro h2
    have h3 := drop_labs h k
    rw [h2] at h3
    have h4 : ((labs l).1.drop k) = [] := by
      have := congrArg Prod.fst h3
      rw [show (labs [0]).1 = [] by decide] at this
      exact this.symm
    have := List.drop_eq_nil_iff.1 h4
    exact this
  · intro h2
    rw [h1, List.drop_eq_nil_of_le h2]
    rfl
theorem drop_par {l : Bs} (h : isName l = true) {k : Nat} (hk : k < (labs l).1.length) : parL (l.drop (pos (labs l).1 k)) = l.drop (pos (labs l).1 (k + 1)) := by
  rw [parL_labs (drop_name h k) (fun e => by have := (drop_root h k).1 e; omega), drop_labs h]
  have h1 := isName_eq (drop_name h (k + 1))
  rw [drop_labs h] at h1
  rw [h1]
  unfold mk
  simp [List.drop_drop, Nat.add_comm]

theorem Up_in (n : Nat) (s : ByteArray) (w : World) :
    CallsIn Fence.wide n Tryz.prog 76 #[.string s] w fun e w' => e = .returned (.func (.func 88) #[] #[.pointer (some ⟨w.heap.size, 0, none⟩)]) ∧ w' = w.alloc (.cells #[.string s] 9) := by
  refine callsIn_of_wp Tryz.func76 rfl trivial ?_ rfl
  simp only [Tryz.ntmps76, List.size_toArray, List.length_cons, List.length_nil, Nat.reduceAdd, Nat.reduceSub, Array.replicate_succ, Array.replicate_zero, List.push_toArray, List.append_toArray, List.nil_append, List.cons_append]
  gi_wp2
  go_ret
  exact ⟨rfl, rfl⟩

set_option maxRecDepth 100000 in
set_option maxHeartbeats 400000 in
theorem Up1_N (Bn : Nat) (s : ByteArray) (hs : s.size ≤ maxLen) (w : World) (hc : Blk w Bn 9 #[.string s]) :
    SeqN Tryz.prog 88 #[.pointer (some ⟨Bn, 0, none⟩)] (fun x : Bs => #[Value.string ⟨x.toArray⟩]) Bn (upsL s.data.toList) w := by
  intro m l J Jx W hW hJ hJx hY h0
  obtain ⟨n, hn⟩ : ∃ n : Nat, 8 ≤ n := ⟨8, by omega⟩
  refine callsIn_wide.2 ((callsIn_wide (n := n)).1 ?_)
  have h1n : 1 ≤ n := by omega
  have hBn := hc.lt
  have hBW : Bn < W.heap.size := by have := hW.size; omega
  have hst : Blk W Bn 9 #[.string s] := (hW.block _ hBn).trans hc
  have c0 : W.cell? ⟨Bn, 0, none⟩ = some (.string s) := hst.cell 0
  have hCk := fun W => (callsIn_wide (n := n - 1)).2 (Check_any s hs W)
  refine callsIn_of_wp Tryz.func88 rfl trivial ?_ rfl
  simp only [Tryz.ntmps88, List.size_toArray, List.length_cons, List.length_nil, Nat.reduceAdd, Nat.reduceSub, Array.replicate_succ, Array.replicate_zero, List.push_toArray, List.append_toArray, List.nil_append, List.cons_append]
  rcases chk_cases s.data.toList with ⟨hn1, hn2⟩ | ⟨hn1, hn2⟩
  · rw [hn2] at hCk
    have HCk := Lib.hid hCk
    clear hCk hn2
    gi_wp2_with (refine ⟨trivial, ?_⟩; gi_at_call 29; refine (HCk.out _).mono ?_; rintro e w1 ⟨rfl, hb1⟩; have c1 : w1.cell? ⟨Bn, 0, none⟩ = some (.string s) := (hb1.cell (p := ⟨Bn, 0, none⟩) hBW).trans c0)
    gi_loopg [3] ((labs s.data.toList).1.length + 1) (fun g at' wr => ∃ (k : Nat) (s' : ByteArray), Aside (g + k = (labs s.data.toList).1.length + 1) ∧ k ≤ (labs s.data.toList).1.length ∧ at' = .string s' ∧ Aside (s'.data.toList = s.data.toList.drop (pos (labs s.data.toList).1 k)) ∧ Aside (J w1.heap.size ((upsL s.data.toList).take k) wr))
    case atStart => exact ⟨0, s, by show _ + 0 = _; rfl, by omega, rfl, by show _ = _; rw [pos_zero]; rfl, h0 _ w1 hb1 rfl⟩
    case round =>
      obtain ⟨k, s', hk, hkl, rfl, hs', hj⟩ := hrel
      have hpre : (upsL s.data.toList).take k ++ [s.data.toList.drop (pos (labs s.data.toList).1 k)] = (upsL s.data.toList).take (k + 1) := ups_at hn1 (by omega)
      obtain ⟨fn, tmps, assign, body, hyl, hR⟩ := yield_deep (m := n - 1) (hY w1.heap.size _ (s.data.toList.drop (pos (labs s.data.toList).1 k)) wr hj.out (by rw [hpre]; exact List.take_prefix _ _))
      rw [hpre] at hR
      rw [← hs'.out, show (⟨s'.data.toList.toArray⟩ : ByteArray) = s' from rfl] at hyl
      have hsz' : s'.size ≤ maxLen := by
        have h1 : s'.data.toList.length ≤ s.data.toList.length := by rw [hs'.out]; simp
        have h2 : s'.size ≤ s.size := by simpa using h1
        omega
      have hnm := drop_name hn1 k
      have hrt := drop_root hn1 k
      rw [← hs'.out] at hnm hrt
      have HR := Lib.hid hR
      have HJ := Lib.hid (And.intro hJ (And.intro hJx hb1))
      by_cases hk2 : k < (labs s.data.toList).1.length
      · have hP := fun W => Parent_name s' hsz' hnm (fun e => by have := hrt.1 e; omega) W
        have hpar := drop_par hn1 hk2
        rw [← hs'.out] at hpar
        have HP := Lib.hid hP
        have HK := Lib.hid (And.intro hkl (And.intro hk2 hpar))
        clear hP hpar hk2 hkl hnm hrt hsz' hR hY hJ hJx hpre hW h0 hb1 hs hc hBn hBW hst c0 c1 hn hn1 hj
        gi_wp2_with (fail)
        refine HR.out.mono ?_
        rintro e W3 (⟨rfl, h1, h2⟩ | ⟨rfl, h1, h2⟩)
        · have H1 := Lib.hid h1
          clear h1 h2
          gi_wp2_with (refine ⟨trivial, ?_⟩; gi_at_call 89; refine (callsIn_wide.2 (HP.out _)).mono ?_; rintro e w2 ⟨rfl, hb2⟩)
          obtain ⟨hkl, hk2, hpar⟩ := HK.out
          obtain ⟨hJ, _, _⟩ := HJ.out
          gi_roundg ((labs s.data.toList).1.length - k)
          case measure => have := hk.out; omega
          case rel => exact ⟨k + 1, ⟨(parL s'.data.toList).toArray⟩, (by show _ = _; omega), by omega, rfl, (by show (parL s'.data.toList) = _; exact hpar), hJ _ _ _ _ H1.out (.of_below hb2)⟩
        · have H1 := Lib.hid h1
          clear h1 h2
          gi_wp2_with (fail)
          refine bodyPost_end (results_none rfl _ _ _) rfl ?_
          exact ⟨⟨_, rfl⟩, w1.heap.size, .inr ⟨_, List.take_prefix _ _, H1.out⟩⟩
      · have hP := fun W => Parent_root s' hsz' (hrt.2 (by omega)) W
        have HP := Lib.hid hP
        have hfull : (upsL s.data.toList).take (k + 1) = upsL s.data.toList := List.take_of_length_le (by rw [ups_length hn1]; omega)
        have HK := Lib.hid hfull
        clear hP hfull hk2 hkl hnm hrt hsz' hR hY hJ hJx hpre hW h0 hb1 hs hc hBn hBW hst c0 c1 hn hn1 hj
        gi_wp2_with (fail)
        refine HR.out.mono ?_
        rintro e W3 (⟨rfl, h1, h2⟩ | ⟨rfl, h1, h2⟩)
        · have H1 := Lib.hid h1
          clear h1 h2
          gi_wp2_with (refine ⟨trivial, ?_⟩; gi_at_call 89; refine (callsIn_wide.2 (HP.out _)).mono ?_; rintro e w2 ⟨rfl, hb2⟩)
          obtain ⟨hJ, _, _⟩ := HJ.out
          refine bodyPost_ret (results_none rfl _ _ _) rfl ?_
          refine ⟨⟨_, rfl⟩, w1.heap.size, .inl (hJ _ _ _ _ ?_ (.of_below hb2))⟩
          rw [← HK.out]
          exact H1.out
        · have H1 := Lib.hid h1
          clear h1 h2
          gi_wp2_with (fail)
          refine bodyPost_end (results_none rfl _ _ _) rfl ?_
          exact ⟨⟨_, rfl⟩, w1.heap.size, .inr ⟨_, List.take_prefix _ _, H1.out⟩⟩
  · rw [hn2] at hCk
    have HCk := Lib.hid hCk
    clear hCk hn2
    gi_wp2_with (refine ⟨trivial, ?_⟩; gi_at_call 29; refine (HCk.out _).mono ?_; rintro e w1 ⟨rfl, hb1⟩)
    refine bodyPost_ret (results_none rfl _ _ _) rfl ?_
    refine ⟨⟨_, rfl⟩, w1.heap.size, .inl ?_⟩
    rw [show upsL s.data.toList = [] by unfold upsL; rw [if_neg (by rw [hn1]; simp)]]
    exact h0 _ w1 hb1 rfl
end Go.Proofs.YthnngndnpigjbaaGreat
