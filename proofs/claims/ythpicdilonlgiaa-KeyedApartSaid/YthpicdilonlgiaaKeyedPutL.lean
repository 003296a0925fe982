/- The law KeyedPut, walked. -/
import Derived.Test.YthpicdilonlgiaaKeyedTells
namespace Go.Proofs.Ythpicdilonlgiaa
open Go.RowKit Go.Lib

/-! ### Plain -/
theorem putE_zero {xs : List Entry} {k s : ByteArray} (h : putE xs k s = 0) : sumE k.data.toList s.data.toList = 0 ∧ xs.any (Entry.is k s) = false ∧ xs.length < 4096 := by
  unfold putE at h
  by_cases h1 : sumE k.data.toList s.data.toList = 0
  · rw [if_neg (fun h2 => h2 h1)] at h
    by_cases h2 : xs.any (Entry.is k s) = true
    · rw [if_pos h2] at h; cases h
    · rw [if_neg h2] at h
      refine ⟨h1, by simpa using h2, ?_⟩
      by_cases h3 : 4096 ≤ xs.length
      · rw [if_pos h3] at h; cases h
      · omega
  · rw [if_pos h1] at h; exact absurd h h1
theorem sumE_zero {k s : ByteArray} (h : sumE k.data.toList s.data.toList = 0) : k.size = 16 := by
  unfold sumE at h
  by_cases h1 : k.data.toList.length ≠ 16
  · rw [if_pos h1] at h; cases h
  · have : k.data.toList.length = k.size := by simp
    omega
theorem is_self (k s : ByteArray) (n : Int) : Entry.is k s ⟨k, s, n⟩ = true := by unfold Entry.is; simp
theorem findN_snoc (p : Entry → Bool) (xs : List Entry) (e : Entry) : findN p (xs ++ [e]) = if xs.any p = true then findN p xs else if p e = true then e.n else 0 := by
  unfold findN
  rw [List.find?_append]
  cases h : xs.find? p with
  | some f =>
    have : xs.any p = true := List.any_eq_true.2 ⟨f, List.mem_of_find?_eq_some h, List.find?_some h⟩
    rw [if_pos this]; rfl
  | none =>
    have : ¬ xs.any p = true := by
      rw [List.find?_eq_none] at h
      rw [List.any_eq_true]
      rintro ⟨x, hx, hp⟩
      exact h x hx hp
    rw [if_neg this]
    by_cases hp : p e = true
    · rw [if_pos hp]; simp [hp]
    · rw [if_neg hp]; simp [hp]
theorem put_of {xs : List Entry} {k s : ByteArray} {n : Int} (h : putE xs k s = 0) : ofN true (xs ++ [⟨k, s, n⟩]) k s = n := by
  obtain ⟨h1, h2, _⟩ := putE_zero h
  unfold ofN
  rw [if_pos ⟨h1, rfl⟩, findN_snoc, if_neg (by rw [h2]; simp), if_pos (is_self k s n)]
theorem put_other {xs : List Entry} {k s k2 s2 : ByteArray} {n : Int} (h : putE xs k s = 0) :
    ofN true xs k2 s2 = ofN true (xs ++ [⟨k, s, n⟩]) k2 s2 ∨ (k.toList = k2.toList ∧ s.toList = s2.toList) := by
  obtain ⟨_, h2, _⟩ := putE_zero h
  unfold ofN
  by_cases h1 : sumE k2.data.toList s2.data.toList = 0 ∧ true = true
  · rw [if_pos h1, if_pos h1, findN_snoc]
    by_cases h3 : xs.any (Entry.is k2 s2) = true
    · rw [if_pos h3]; left; rfl
    · rw [if_neg h3]
      by_cases h4 : Entry.is k2 s2 ⟨k, s, n⟩ = true
      · right
        unfold Entry.is at h4
        simpa using h4
      · rw [if_neg h4]
        left
        rcases idxOf_cases (Entry.is k2 s2) xs with ⟨_, h5, _⟩ | ⟨_, _, _, _, _, _, h5⟩
        · exact h5
        · exact absurd h5 h3
  · rw [if_neg h1, if_neg h1]; left; rfl
theorem put_known (xs : List Entry) (k s : ByteArray) (n : Int) : (xs ++ [Entry.mk k s n]).any (Entry.is k s) = true := by
  rw [List.any_append]; simp [is_self k s n]
theorem put_chk {xs : List Entry} {k s : ByteArray} {n v v' : Int} (hx : xs.length ≤ 60) (h : putE xs k s = 0) (h1 : ChkIs xs v) (h2 : ChkIs (xs ++ [⟨k, s, n⟩]) v') : (v = 0 ∧ v' = 0) ∨ v = 2 := by
  rcases h1 with ⟨h1, _, h3⟩ | ⟨h1, _⟩
  · left
    refine ⟨h1, ?_⟩
    rcases h2 with ⟨h2, _⟩ | ⟨_, h2⟩
    · exact h2
    · obtain ⟨g1, g2, _⟩ := putE_zero h
      refine absurd ⟨by simp; omega, ?_⟩ h2
      rw [List.length_append, List.length_singleton]
      have hs : SndTo (xs ++ [⟨k, s, n⟩]) xs.length := by
        intro j e hj he
        rw [List.getElem?_append_left hj] at he
        obtain ⟨q1, q2⟩ := h3 j e hj he
        refine ⟨q1, fun i f hi hf => ?_⟩
        rw [List.getElem?_append_left (by omega)] at hf
        exact q2 i f hi hf
      refine hs.succ (e := ⟨k, s, n⟩) (by simp) (sumE_zero g1) (fun i f hi hf => ?_)
      rw [List.getElem?_append_left hi] at hf
      rw [List.any_eq_false] at g2
      have := g2 f (List.mem_of_getElem? hf)
      simpa using this
  · right; exact h1

set_option maxHeartbeats 4000000 in
set_option maxRecDepth 100000 in
theorem keyedPut_out (i : Bool) (xs : List Entry) (A : Option Addr) (c : Nat) (k s : ByteArray) (n : Int) (k2 s2 : ByteArray) (w : World) (hbig : xs.length ≤ 9223372036854775807) (hs : s.size ≤ 9223372036854775807) (hs2 : s2.size ≤ 9223372036854775807)
    (h : 60 < xs.length ∨ 4096 < s.size ∨ 4096 < s2.size) :
    Calls Try.prog 11 #[.agg #[.bool i, .slice A xs.length c], .string k, .string s, .int .u64 n, .string k2, .string s2] w fun e w' => e = .returned (.bool true) ∧ Below w.heap.size w w' := by
  have hb0 : Below w.heap.size w (w.alloc (.cells #[.bool i, .slice A xs.length c] 50)) := (Below.refl _ _).alloc (Nat.le_refl _) _
  have B0 : Blk (w.alloc (.cells #[.bool i, .slice A xs.length c] 50)) w.heap.size 50 #[.bool i, .slice A xs.length c] := Blk.new w _ _
  have HB0 := Lib.hid hb0
  have hS := fun W => small_any i xs A c W hbig
  have hcase : ∃ m : Int, (∀ W, Calls Try.prog 46 #[.agg #[.bool i, .slice A xs.length c]] W fun e w' => e = .returned (.int .i64 m) ∧ Below W.heap.size W w') ∧
      ((m == 0) = true ∨ ((m == 0) = false ∧ decide (4096 < (s.size : Int)) = true) ∨ ((m == 0) = false ∧ decide (4096 < (s.size : Int)) = false ∧ decide (4096 < (s2.size : Int)) = true)) := by
    by_cases hx : 60 < xs.length
    · rw [if_pos hx] at hS; exact ⟨0, hS, .inl rfl⟩
    · rw [if_neg hx] at hS
      refine ⟨1, hS, .inr ?_⟩
      by_cases h1 : 4096 < s.size
      · left; exact ⟨rfl, by simp; omega⟩
      · right; exact ⟨rfl, by simp; omega, by simp; omega⟩
  obtain ⟨m, hSm, hm⟩ := hcase
  have HS := Lib.hid hSm
  clear hb0 hS hSm h
  rcases hm with h1 | ⟨h1, h2⟩ | ⟨h1, h2, h3⟩
  all_goals
    go_enter Try.func11, Try.ntmps11
    go_wp2_with (fail)
    refine (lives09 _).mono ?_
    rintro e w1 ⟨rfl, hb1⟩
    have B1 := B0.below hb1 B0.lt
    have HB1 := Lib.hid (HB0.out.trans (hb1.mono HB0.out.size))
    have c0 := B1.cell 0
    have c1 := B1.cell 1
    simp at c0 c1
    clear hb1
    go_wp2_with (fail)
    refine (HS.out _).mono ?_
    rintro e w2 ⟨rfl, hb2⟩
    have HB2 := Lib.hid (HB1.out.trans (hb2.mono HB1.out.size))
    clear hb2
    go_wp2_with (fail)
    go_ret
    exact ⟨rfl, HB2.out⟩

set_option maxHeartbeats 4000000 in
set_option maxRecDepth 100000 in
theorem keyedPut_main (i : Bool) (xs : List Entry) (A : Option Addr) (c : Nat) (k s : ByteArray) (n : Int) (k2 s2 : ByteArray) (w : World) (hT : Tab w A xs) (hx : xs.length ≤ 60) (hk : k.size ≤ 9223372036854775807) (hs : s.size ≤ 4096) (hk2 : k2.size ≤ 9223372036854775807) (hs2 : s2.size ≤ 4096)
    (hn : 0 ≤ n ∧ n ≤ 18446744073709551615) :
    Calls Try.prog 11 #[.agg #[.bool i, .slice A xs.length c], .string k, .string s, .int .u64 n, .string k2, .string s2] w fun e w' => e = .returned (.bool true) ∧ Below w.heap.size w w' := by
  have hb0 : Below w.heap.size w (w.alloc (.cells #[.bool i, .slice A xs.length c] 50)) := (Below.refl _ _).alloc (Nat.le_refl _) _
  have B0 : Blk (w.alloc (.cells #[.bool i, .slice A xs.length c] 50)) w.heap.size 50 #[.bool i, .slice A xs.length c] := Blk.new w _ _
  have hbig : xs.length ≤ 9223372036854775807 := by omega
  have HB0 := Lib.hid hb0
  have HT := Lib.hid hT
  have hS := fun W => small_any i xs A c W hbig
  rw [if_neg (by omega)] at hS
  have HS := Lib.hid hS
  have hi1 : decide (4096 < (s.size : Int)) = false := by simp; omega
  have hi2 : decide (4096 < (s2.size : Int)) = false := by simp; omega
  obtain ⟨v, hv⟩ := chk_v xs
  obtain ⟨v', hv'⟩ := chk_v (xs ++ [Entry.mk k s n])
  have HPL := Lib.hid (fun (W : World) (h : Tab W A xs) => put_any true xs A c k s n W h hbig hk (by omega) hn)
  have HCL := Lib.hid (fun (W : World) (h : Tab W A xs) => check_is hv true A c W h hbig)
  have hOL := fun (W : World) (h : Tab W A xs) => of_hash true xs A c k2 s2 W h hbig hk2 (by omega)
  unfold PutPost at HPL
  by_cases hp : putE xs k s = 0
  · have hL : putL xs k s n = xs ++ [Entry.mk k s n] := by unfold putL; rw [if_pos hp]
    rw [hp, hL] at HPL
    have hbig2 : (xs ++ [Entry.mk k s n]).length ≤ 9223372036854775807 := by simp; omega
    have hCG := fun (A' : Option Addr) (c' : Nat) (W : World) (h : Tab W A' (xs ++ [Entry.mk k s n])) => check_is hv' true A' c' W h hbig2
    have hKG := fun (A' : Option Addr) (c' : Nat) (W : World) (h : Tab W A' (xs ++ [Entry.mk k s n])) => known_any true _ A' c' k s W h hbig2
    have hO1 := fun (A' : Option Addr) (c' : Nat) (W : World) (h : Tab W A' (xs ++ [Entry.mk k s n])) => of_hash true _ A' c' k s W h hbig2 hk (by omega)
    have hO3 := fun (A' : Option Addr) (c' : Nat) (W : World) (h : Tab W A' (xs ++ [Entry.mk k s n])) => of_hash true _ A' c' k2 s2 W h hbig2 hk2 (by omega)
    rw [put_of hp, (putE_zero hp).1] at hO1
    rw [put_known] at hKG
    have hbc := put_other (n := n) (k2 := k2) (s2 := s2) hp
    have hvv := put_chk hx hp hv hv'
    generalize ofN true (xs ++ [Entry.mk k s n]) k2 s2 = c3 at hO3 hbc
    generalize ofN true xs k2 s2 = b2 at hOL hbc
    generalize sumE k2.data.toList s2.data.toList = y at hOL hO3
    have HCG := Lib.hid hCG
    have HKG := Lib.hid hKG
    have HO1 := Lib.hid hO1
    have HO3 := Lib.hid hO3
    have HOL := Lib.hid hOL
    have hbc2 : (b2 == c3) = true ∨ ((b2 == c3) = false ∧ (k.toList == k2.toList) = true ∧ (s.toList == s2.toList) = true) := by
      by_cases hq : b2 = c3
      · left; simpa using hq
      · right
        rcases hbc with h | ⟨h1, h2⟩
        · exact absurd h hq
        · exact ⟨by simpa using hq, by simpa using h1, by simpa using h2⟩
    have hvv2 : ((v != 0) = false ∧ (v' == 0) = true) ∨ (v != 0) = true := by
      rcases hvv with ⟨rfl, rfl⟩ | rfl
      · left; exact ⟨rfl, rfl⟩
      · right; rfl
    generalize hys : xs ++ [Entry.mk k s n] = ys at HPL HCG HKG HO1 HO3
    clear hCG hKG hO1 hO3 hOL hbc hvv hv hv' hb0 hS hT hp hL hbig2 hys
    go_enter Try.func11, Try.ntmps11
    go_wp2_with (fail)
    refine (lives09 _).mono ?_
    rintro e w1 ⟨rfl, hb1⟩
    have B1 := B0.below hb1 B0.lt
    have HB1 := Lib.hid (HB0.out.trans (hb1.mono HB0.out.size))
    have c0 := B1.cell 0
    have c1 := B1.cell 1
    simp at c0 c1
    clear hb1
    go_wp2_with (fail)
    refine (HS.out _).mono ?_
    rintro e w2 ⟨rfl, hb2⟩
    have B2 := B1.below hb2 B1.lt
    have HB2 := Lib.hid (HB1.out.trans (hb2.mono HB1.out.size))
    have c0 := B2.cell 0
    have c1 := B2.cell 1
    have f0 := B2.frozen 0
    simp at c0 c1
    clear hb2
    go_wp2_with (fail)
    have B3 : Blk (w2.setCell ⟨w.heap.size, 0, none⟩ (.bool true)) w.heap.size 50 #[.bool true, .slice A xs.length c] := B2.set_ 0 (.bool true)
    have HB3 := Lib.hid (HB2.out.setCell (p := ⟨w.heap.size, 0, none⟩) (Nat.le_refl _) (.bool true))
    refine (HPL.out _ (HT.out.below HB3.out)).mono ?_
    rintro e w4 ⟨A4, c4, rfl, hT4, _, hb4⟩
    have B4 := B3.below hb4 B3.lt
    have HB4 := Lib.hid (HB3.out.trans (hb4.mono HB3.out.size))
    have ha5 : Below w4.heap.size w4 (w4.alloc (.cells #[.bool true, .slice A4 ys.length c4] 50)) := (Below.refl _ _).alloc (Nat.le_refl _) _
    have D5 := Blk.new w4 50 #[.bool true, .slice A4 ys.length c4]
    have HT5 := Lib.hid (hT4.below ha5)
    have B5 := B4.below ha5 B4.lt
    have HB5 := Lib.hid (HB4.out.trans (ha5.mono HB4.out.size))
    have hsz5 := B4.lt
    have c0 := B4.cell 0
    have c1 := B4.cell 1
    simp at c0 c1
    clear hb4 hT4 ha5 B0 B1 B2 B3 B4 HB0 HB1 HB2 HB3
    go_wp2_with (fail)
    refine (HO1.out _ _ _ HT5.out).mono ?_
    rintro e w6 ⟨rfl, hb6⟩
    have B6 := B5.below hb6 B5.lt
    have D6 := D5.below hb6 D5.lt
    have HT6 := Lib.hid (HT5.out.below hb6)
    have HB6 := Lib.hid (HB5.out.trans (hb6.mono HB5.out.size))
    have c0 := B6.cell 0
    have c1 := B6.cell 1
    have d0 := D6.cell 0
    have d1 := D6.cell 1
    simp at c0 c1 d0 d1
    clear hb6 B5 D5 HB5 HT5
    go_wp2_with (fail)
    refine (HOL.out _ (HT.out.below HB6.out)).mono ?_
    rintro e w7 ⟨rfl, hb7⟩
    have B7 := B6.below hb7 B6.lt
    have D7 := D6.below hb7 D6.lt
    have HT7 := Lib.hid (HT6.out.below hb7)
    have HB7 := Lib.hid (HB6.out.trans (hb7.mono HB6.out.size))
    have c0 := B7.cell 0
    have c1 := B7.cell 1
    have d0 := D7.cell 0
    have d1 := D7.cell 1
    simp at c0 c1 d0 d1
    clear hb7 B6 D6 HB6 HT6
    go_wp2_with (fail)
    refine (HO3.out _ _ _ HT7.out).mono ?_
    rintro e w8 ⟨rfl, hb8⟩
    have B8 := B7.below hb8 B7.lt
    have D8 := D7.below hb8 D7.lt
    have HT8 := Lib.hid (HT7.out.below hb8)
    have HB8 := Lib.hid (HB7.out.trans (hb8.mono HB7.out.size))
    have c0 := B8.cell 0
    have c1 := B8.cell 1
    have d0 := D8.cell 0
    have d1 := D8.cell 1
    simp at c0 c1 d0 d1
    clear hb8 B7 D7 HB7 HT7
    rcases hbc2 with g1 | ⟨g1, g2, g3⟩
    all_goals
      go_wp2_with (fail)
      refine (HKG.out _ _ _ HT8.out).mono ?_
      rintro e w9 ⟨rfl, hb9⟩
      have B9 := B8.below hb9 B8.lt
      have D9 := D8.below hb9 D8.lt
      have HT9 := Lib.hid (HT8.out.below hb9)
      have HB9 := Lib.hid (HB8.out.trans (hb9.mono HB8.out.size))
      have c0 := B9.cell 0
      have c1 := B9.cell 1
      have d0 := D9.cell 0
      have d1 := D9.cell 1
      simp at c0 c1 d0 d1
      clear hb9 B8 D8 HB8 HT8
      rcases hvv2 with ⟨q1, q2⟩ | q1
      · go_wp2_with (fail)
        refine (HCL.out _ (HT.out.below HB9.out)).mono ?_
        rintro e w10 ⟨rfl, hb10⟩
        have D10 := D9.below hb10 D9.lt
        have HT10 := Lib.hid (HT9.out.below hb10)
        have HB10 := Lib.hid (HB9.out.trans (hb10.mono HB9.out.size))
        have d0 := D10.cell 0
        have d1 := D10.cell 1
        simp at d0 d1
        clear hb10 B9 D9 HB9 HT9
        go_wp2_with (fail)
        refine (HCG.out _ _ _ HT10.out).mono ?_
        rintro e w11 ⟨rfl, hb11⟩
        have HB11 := Lib.hid (HB10.out.trans (hb11.mono HB10.out.size))
        clear hb11
        go_wp2_with (fail)
        go_ret
        exact ⟨rfl, HB11.out⟩
      · go_wp2_with (fail)
        refine (HCL.out _ (HT.out.below HB9.out)).mono ?_
        rintro e w10 ⟨rfl, hb10⟩
        have HB10 := Lib.hid (HB9.out.trans (hb10.mono HB9.out.size))
        clear hb10
        go_wp2_with (fail)
        go_ret
        exact ⟨rfl, HB10.out⟩
  · have hL : putL xs k s n = [] := by unfold putL; rw [if_neg hp]
    have hpd : (decide (putE xs k s = 0)) = false := by simpa using hp
    rw [hpd, hL] at HPL
    have hpi : (putE xs k s != 0) = true := by simpa using hp
    generalize putE xs k s = pe at HPL hpi
    clear hOL hv hv' hb0 hS hT hp hL hpd
    go_enter Try.func11, Try.ntmps11
    go_wp2_with (fail)
    refine (lives09 _).mono ?_
    rintro e w1 ⟨rfl, hb1⟩
    have B1 := B0.below hb1 B0.lt
    have HB1 := Lib.hid (HB0.out.trans (hb1.mono HB0.out.size))
    have c0 := B1.cell 0
    have c1 := B1.cell 1
    simp at c0 c1
    clear hb1
    go_wp2_with (fail)
    refine (HS.out _).mono ?_
    rintro e w2 ⟨rfl, hb2⟩
    have B2 := B1.below hb2 B1.lt
    have HB2 := Lib.hid (HB1.out.trans (hb2.mono HB1.out.size))
    have c0 := B2.cell 0
    have c1 := B2.cell 1
    have f0 := B2.frozen 0
    simp at c0 c1
    clear hb2
    go_wp2_with (fail)
    have HB3 := Lib.hid (HB2.out.setCell (p := ⟨w.heap.size, 0, none⟩) (Nat.le_refl _) (.bool true))
    refine (HPL.out _ (HT.out.below HB3.out)).mono ?_
    rintro e w4 ⟨A4, c4, rfl, hT4, _, hb4⟩
    have hb4' := HB3.out.trans (hb4.mono HB3.out.size)
    have HB4 := Lib.hid (hb4'.alloc hb4'.size (.cells #[.bool false, .slice A4 0 c4] 50))
    clear hb4 hT4 hb4'
    go_wp2_with (fail)
    go_ret
    exact ⟨rfl, HB4.out⟩

theorem keyedPut_law (w : World) (i : Bool) (A : Option Addr) (xs : List Entry) (c : Nat) (k s : ByteArray) (n : Int) (k2 s2 : ByteArray) (hT : Tab w A xs) (hc : xs.length ≤ c) (hm : c ≤ maxLen) (hk : k.size ≤ maxLen) (hs : s.size ≤ maxLen) (hn : 0 ≤ n ∧ n ≤ 18446744073709551615) (hk2 : k2.size ≤ maxLen) (hs2 : s2.size ≤ maxLen) :
    Calls Try.prog 11 #[.agg #[.bool i, .slice A xs.length c], .string k, .string s, .int .u64 n, .string k2, .string s2] w fun e w' => e = .returned (.bool true) ∧ Below w.heap.size w w' := by
  unfold maxLen at hm hk hs hk2 hs2
  by_cases h : 60 < xs.length ∨ 4096 < s.size ∨ 4096 < s2.size
  · exact keyedPut_out i xs A c k s n k2 s2 w (by omega) (by omega) (by omega) h
  · exact keyedPut_main i xs A c k s n k2 s2 w hT (by omega) (by omega) (by omega) (by omega) (by omega) hn
end Go.Proofs.Ythpicdilonlgiaa
