/- The walk of hardtacklaw35.WheelPlays. Conditions: none. -/
import Derived.Test.YtkdijafnakpfhaaWheelI
import Derived.Deep.DeepCutAuto
import Derived.Deep.CutBlock
namespace Go.Proofs.Ytkdijafnakpfhaa
open Go.RowKit Go.Lib

theorem popV_le (n : Nat) : ∀ (v : List Th) (now : Int), (popV n v now).1.length ≤ n := by
  induction n with
  | zero => intro v now; exact Nat.le_refl _
  | succ n ih =>
    intro v now
    unfold popV
    cases minV v with
    | none => simp
    | some x =>
      simp only
      split
      · have := ih (dropV v x.id) now
        simp only [List.length_cons]
        omega
      · simp
set_option maxRecDepth 100000 in
set_option maxHeartbeats 4000000 in
theorem wheelPlays_law (w : World) (A : Option Addr) (xs : List WAct) (c : Nat) (hU : WTab w A xs) (hc : xs.length ≤ c) (hm : c ≤ maxLen) :
    Calls Try.prog 3 #[.slice A xs.length c] w fun e w' => e = .returned (.bool true) ∧ Below w.heap.size w w' := by
  have HU := Lib.hid hU
  unfold maxLen at hm
  have hlM : (xs.length : Int) ≤ 9223372036854775807 := by omega
  have HL := Lib.hid (lives35_any w)
  have HN := Lib.hid (fun W => new_any35 W)
  clear hU hc hm
  go_enter Try.func3, Try.ntmps3
  go_wp2_with (fail)
  with_reducible refine HL.out.mono ?_
  rintro e w1 ⟨rfl, hb⟩
  have B1 := Lib.hid hb
  clear hb
  by_cases h100 : 100 < xs.length
  · have h1I : 100 < (xs.length : Int) := by omega
    clear h100
    go_wp2_with (fail)
    go_ret
    exact ⟨rfl, B1.out⟩
  have h1I : ¬ 100 < (xs.length : Int) := by omega
  have H100 := Lib.hid (show xs.length ≤ 100 by omega)
  clear h100
  go_wp2_with (fail)
  with_reducible refine (HN.out _).mono ?_
  rintro e w2 ⟨g, mb, rfl, k1, k2, k3, k4⟩
  have z1 := B1.out.size
  have W2 := Lib.hid (show WI (fun b => b < w.heap.size) w2 g mb 0 [] [] none 0 ∧ KeepK (fun b => b < w.heap.size) w w2 from ⟨⟨⟨none, k1, fun b hb => by
    rcases hb with hb | hb
    · exact ⟨by have := k2.size; omega, by omega, by omega, fun q hq => by cases hq⟩
    · simp [Value.ownBlock] at hb⟩, Sl.nil _ _⟩, (KeepK.of_below B1.out fun b hb => hb).trans (KeepK.of_below k2 fun b hb => by omega)⟩)
  clear k1 k2 k3 k4 z1
  go_wp2_with (fail)
  go_loopg [4, 27] xs.length (fun gg v4 v27 wr => ∃ (k : Nat) (v : List Th) (A' : Option Addr) (c' : Nat), v27 = .int .i64 (k : Int) ∧ v4 = .slice A' v.length c' ∧ Aside (gg + k = xs.length) ∧ Aside (WI (fun b => b < w.heap.size) wr g mb k v v A' c' ∧ KeepK (fun b => b < w.heap.size) w wr))
  case atStart => exact ⟨0, [], none, 0, rfl, rfl, rfl, W2.out⟩
  case round =>
    obtain ⟨k, v, A', c', rfl, rfl, hg, hP⟩ := hrel
    by_cases hlt : k < xs.length
    · obtain ⟨b0, o, rfl, hal, hac⟩ := HU.out.2 (by omega)
      obtain ⟨y, hyk⟩ : ∃ y, xs[k]? = some y := ⟨_, List.getElem?_eq_getElem hlt⟩
      have hyo := HU.out.1 y (List.mem_of_getElem? hyk)
      have hbw : Below w.heap.size w wr := below_of_keep hP.out.2
      have a0 : wr.cell? ⟨b0, o + k * 3, none⟩ = some (.int .i64 y.k) := (hbw.cell (p := ⟨b0, o + k * 3, none⟩) hal).trans (hac k y hyk 0 _ rfl)
      have a1 : wr.cell? ⟨b0, o + k * 3 + 1, none⟩ = some (.int .i64 y.c) := (hbw.cell (p := ⟨b0, o + k * 3 + 1, none⟩) hal).trans (hac k y hyk 1 _ rfl)
      have a2 : wr.cell? ⟨b0, o + k * 3 + 2, none⟩ = some (.int .i64 y.i) := (hbw.cell (p := ⟨b0, o + k * 3 + 2, none⟩) hal).trans (hac k y hyk 2 _ rfl)
      have hltI : (k : Int) < (xs.length : Int) := by omega
      have hxl : (xs.length : Int) ≤ 100 := by have := H100.out; omega
      have HY := Lib.hid hyo
      clear hac hyk hyo hbw hal hlt
      go_upto_block 2 with (fail)
      obtain ⟨ba, hba⟩ : ∃ ba, wr.heap.size = ba := ⟨_, rfl⟩
      obtain ⟨W5, hW5⟩ : ∃ W5, wr.alloc (.cells #[.int .i64 y.k, .int .i64 y.c, .int .i64 y.i] 28) = W5 := ⟨_, rfl⟩
      have hb5 : Below wr.heap.size wr W5 := by rw [← hW5]; exact (Below.refl _ _).alloc (Nat.le_refl _) _
      have HA5 : RowKit.Hid (Blk W5 ba 28 #[.int .i64 y.k, .int .i64 y.c, .int .i64 y.i]) := Lib.hid (by rw [← hW5, ← hba]; exact Blk.new _ _ _)
      have H5 := Lib.hid (show WI (fun b => b < w.heap.size) W5 g mb k v v A' c' ∧ KeepK (fun b => b < w.heap.size) w W5 from ⟨hP.out.1.below hb5, hP.out.2.trans (KeepK.of_below hb5 fun b hb => by have := hP.out.2.size; omega)⟩)
      rw [hW5, hba]
      clear hW5 hba hb5 a0 a1 a2
      have x1 := HA5.out.cell 1
      have x2 := HA5.out.cell 2
      go_cut [4] (fun v4 wx => ∃ (v' : List Th) (A2 : Option Addr) (c2 : Nat), v4 = .slice A2 v'.length c2 ∧ Aside (WI (fun b => b < w.heap.size) wx g mb (k + 1) v' v' A2 c2 ∧ KeepK (fun b => b < w.heap.size) w wx))
      case first =>
        have hvl : v.length ≤ 100 := by
          obtain ⟨AA, q1, _⟩ := H5.out.1.lw
          have := q1.len.1
          have := hg.out
          have := H100.out
          omega
        by_cases hk0 : y.k = 0
        · have hkb : (y.k == 0) = true := by simp [hk0]
          have HRA := Lib.hid (show Calls Try.prog 7 #[.slice A' v.length c', .int .i64 y.c, .int .i64 y.i] W5 (ListP W5 (Value.slice A' v.length c').ownBlock (addV v y.c y.i) (!hasId v y.c)) from rAdd35_any H5.out.1.ts (by omega) ⟨y.c, y.i⟩)
          have HYO := Lib.hid (show Th.ok ⟨y.c, y.i⟩ from ⟨HY.out.2.1, HY.out.2.2⟩)
          clear hk0
          go_wp2_with (fail)
          with_reducible refine HRA.out.mono ?_
          rintro e w6 ⟨A6, c6, rfl, k1, k2, k3⟩
          have W6 := Lib.hid (And.intro (H5.out.1.list k3 k1 k2) (And.intro (H5.out.2.trans (KeepK.of_below k3 fun b hb => Nat.lt_of_lt_of_le hb H5.out.2.size)) (HA5.out.below k3 HA5.out.lt)))
          clear k1 k2 k3 x1 x2
          have x1 := W6.out.2.2.cell 1
          have x2 := W6.out.2.2.cell 2
          have HLA := Lib.hid (show Calls Try.prog 8 #[.pointer (some ⟨g, 0, none⟩), .int .i64 y.c, .int .i64 y.i] w6 _ from W6.out.1.lw.add ⟨y.c, y.i⟩ HYO.out (by have := hg.out; have := H100.out; omega))
          obtain ⟨bb, hbb⟩ : ∃ bb, (!hasId v y.c) = bb := ⟨_, rfl⟩
          have q9 : (bb != bb) = false := by simp
          go_wp2_with (fail)
          with_reducible refine HLA.out.mono ?_
          rintro e w7 ⟨rfl, k1, k2⟩
          have W7 := Lib.hid (W6.out.1.turn k1 k2)
          clear k1 k2 x1 x2
          dsimp only at *
          rw [hbb]
          go_wp2_with (fail)
          go_meet
          exact ⟨addV v y.c y.i, A6, c6, rfl, W7.out.1, W6.out.2.1.trans W7.out.2⟩
        have hkb : (y.k == 0) = false := by simp [hk0]
        by_cases hk1 : y.k = 1
        · have hkc : (y.k == 1) = true := by simp [hk1]
          have HRA := Lib.hid (rDrop35_any H5.out.1.ts (by omega) y.c)
          have HYO := Lib.hid HY.out.2.1
          clear hk0 hk1
          go_wp2_with (fail)
          with_reducible refine HRA.out.mono ?_
          rintro e w6 ⟨A6, c6, rfl, k1, k2, k3⟩
          have W6 := Lib.hid (And.intro (H5.out.1.list k3 k1 (fun p hp => .inr (k2 p hp))) (And.intro (H5.out.2.trans (KeepK.of_below k3 fun b hb => Nat.lt_of_lt_of_le hb H5.out.2.size)) (HA5.out.below k3 HA5.out.lt)))
          clear k1 k2 k3 x1 x2
          have x1 := W6.out.2.2.cell 1
          have HLA := Lib.hid (W6.out.1.lw.drop y.c HYO.out)
          obtain ⟨bb, hbb⟩ : ∃ bb, hasId v y.c = bb := ⟨_, rfl⟩
          have q9 : (bb != bb) = false := by simp
          go_wp2_with (fail)
          with_reducible refine HLA.out.mono ?_
          rintro e w7 ⟨rfl, k1, k2⟩
          have W7 := Lib.hid (W6.out.1.turn k1 k2)
          clear k1 k2 x1
          rw [hbb]
          go_wp2_with (fail)
          go_meet
          exact ⟨dropV v y.c, A6, c6, rfl, ⟨W7.out.1.lw.elim fun AA q => ⟨AA, q.1.mono (by omega) (by have := hg.out; have := H100.out; omega), q.2⟩, W7.out.1.ts⟩, W6.out.2.1.trans W7.out.2⟩
        have hkc : (y.k == 1) = false := by simp [hk1]
        by_cases hk2 : y.k = 2
        · have hkd : (y.k == 2) = true := by simp [hk2]
          have hnd : (v.map Th.id).Nodup := by
            obtain ⟨AA, q1, _⟩ := H5.out.1.lw
            exact q1.nodup
          have hpl : (popV v.length v y.i).1.length ≤ 1000 := Nat.le_trans (popV_le v.length v y.i) (by omega)
          obtain ⟨P, hP2⟩ : ∃ P, popV v.length v y.i = P := ⟨_, rfl⟩
          have HRA := Lib.hid (show Calls Try.prog 11 #[.slice A' v.length c', .int .i64 y.i] W5 (RPopP W5 (Value.slice A' v.length c').ownBlock P) from hP2 ▸ rPop35_any H5.out.1.ts (by omega) hnd y.i)
          rw [hP2] at hpl
          have HPL := Lib.hid hpl
          have HP2 := Lib.hid hP2
          clear hk0 hk1 hk2 hnd hpl hP2
          go_wp2_with (fail)
          with_reducible refine HRA.out.mono ?_
          rintro e w6 ⟨A6, c6, A7, c7, rfl, k1, k2, k3, k4, k5, k6⟩
          have W6 := Lib.hid (And.intro (H5.out.1.pop k6 k1 k2 (fun p hp => ⟨k4 p hp, k3.lt p hp⟩)) (And.intro (H5.out.2.trans (KeepK.of_below k6 fun b hb => Nat.lt_of_lt_of_le hb H5.out.2.size)) (And.intro (HA5.out.below k6 HA5.out.lt) k3)))
          clear k1 k2 k3 k4 k5 k6 x1 x2
          have x1 := W6.out.2.2.1.cell 1
          have x2 := W6.out.2.2.1.cell 2
          have HLA := Lib.hid (W6.out.1.lw.pop y.i)
          rw [HP2.out] at HLA
          go_wp2_with (fail)
          with_reducible refine HLA.out.mono ?_
          rintro e w7 ⟨A8, c8, rfl, q1, q2, q3⟩
          have W7 := Lib.hid (show WI (fun b => b < w.heap.size) w7 g mb k P.2 P.2 A6 c6 ∧ KeepK (fun b => b < w.heap.size) w w7 from ⟨⟨q2.less fun b hb => .inl (hb.imp_left .inl), Sl.keepK W6.out.1.ts q3 fun g hg => .inr hg⟩, W6.out.2.1.trans (KeepK.mono q3 fun b hb => .inl (.inl hb))⟩)
          have HS7 := Lib.hid (same35_any P.1 A8 A7 c8 c7 w7 q1 (Sl.keepK W6.out.2.2.2 q3 fun g hg => .inl (.inr hg)) HPL.out)
          clear q1 q2 q3 x1 x2
          go_wp2_with (fail)
          with_reducible refine HS7.out.mono ?_
          rintro e w8 ⟨rfl, k1⟩
          have W8 := Lib.hid (And.intro (W7.out.1.below k1) (W7.out.2.trans (KeepK.of_below k1 fun b hb => Nat.lt_of_lt_of_le hb W7.out.2.size)))
          clear k1
          go_wp2_with (fail)
          go_meet
          exact ⟨P.2, A6, c6, rfl, ⟨W8.out.1.lw.elim fun AA q => ⟨AA, q.1.mono (by omega) (by have := hg.out; have := H100.out; omega), q.2⟩, W8.out.1.ts⟩, W8.out.2⟩
        · have hkd : (y.k == 2) = false := by simp [hk2]
          clear hk0 hk1 hk2
          go_wp2_with (fail)
          go_meet
          exact ⟨v, A', c', rfl, ⟨H5.out.1.lw.elim fun AA q => ⟨AA, q.1.mono (by omega) (by have := hg.out; have := H100.out; omega), q.2⟩, H5.out.1.ts⟩, H5.out.2⟩
      case rest =>
        obtain ⟨v', A2, c2, rfl, hP'⟩ := hcut
        obtain ⟨V, hV⟩ : ∃ V, V = wc := ⟨_, rfl⟩
        subst hV
        have H6 := Lib.hid hP'.out
        have hkl : k < 100 := by have := hltI; have := H100.out; omega
        have hvl : v'.length ≤ 100 := by
          obtain ⟨AA, q1, _⟩ := H6.out.1.lw
          have := q1.len.1
          omega
        have HVL := Lib.hid (show v'.length ≤ 1000 by omega)
        have hvI : (v'.length : Int) ≤ 100 := by omega
        clear hvl hkl hP' x1 x2
        obtain ⟨m1, hm1⟩ : ∃ m1, (minV v').elim 0 Th.t = m1 := ⟨_, rfl⟩
        obtain ⟨m2, hm2⟩ : ∃ m2, (minV v').isSome = m2 := ⟨_, rfl⟩
        have e1 : (m1 != m1) = false := by simp
        have e2 : (m2 != m2) = false := by simp
        have e3 : ((v'.length : Int) != (v'.length : Int)) = false := by simp
        have HNX := Lib.hid H6.out.1.lw.next
        rw [hm1, hm2] at HNX
        go_wp2_with (fail)
        with_reducible refine HNX.out.mono ?_
        rintro e w7 ⟨rfl, q2, q3⟩
        have W7 := Lib.hid (And.intro (H6.out.1.turn q2 q3).1 (H6.out.2.trans (H6.out.1.turn q2 q3).2))
        clear q2 q3
        have HRN := Lib.hid (rNext35_any W7.out.1.ts HVL.out)
        rw [hm1, hm2] at HRN
        go_wp2_with (fail)
        with_reducible refine HRN.out.mono ?_
        rintro e w8 ⟨rfl, q2⟩
        have W8 := Lib.hid (And.intro (W7.out.1.below q2) (W7.out.2.trans (KeepK.of_below q2 fun b hb => Nat.lt_of_lt_of_le hb W7.out.2.size)))
        clear q2
        have HLN := Lib.hid W8.out.1.lw.len
        go_wp2_with (fail)
        with_reducible refine HLN.out.mono ?_
        rintro e w9 ⟨rfl, q2, q3⟩
        have W9 := Lib.hid (And.intro (W8.out.1.turn q2 q3).1 (W8.out.2.trans (W8.out.1.turn q2 q3).2))
        clear q2 q3
        go_wp2_with (fail)
        go_roundg (xs.length - (k + 1))
        case measure => have := hg.out; omega
        case rel => exact ⟨k + 1, v', A2, c2, by go_num, rfl, (show xs.length - (k + 1) + (k + 1) = xs.length by have := hltI; omega), W9.out⟩
    · have hltI : ¬ (k : Int) < (xs.length : Int) := by omega
      clear hlt
      go_wp2_with (fail)
      go_ret
      exact ⟨rfl, below_of_keep hP.out.2⟩
end Go.Proofs.Ytkdijafnakpfhaa
