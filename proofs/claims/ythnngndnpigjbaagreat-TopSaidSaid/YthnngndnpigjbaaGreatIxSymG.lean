/- The walks of slices.swapRangeCmpFunc and slices.rotateCmpFunc at numbers that stand for texts (printed by ixgen.py). Conditions: none. The walk of slices.symMergeCmpFunc at numbers that stand for texts, where there is one in front, or one behind (printed by ixgen.py). Conditions: none. The walk of slices.symMergeCmpFunc at numbers that stand for texts (printed by ixgen.py). Conditions: none. The walk of slices.stableCmpFunc at up to 1000 numbers that stand for texts (printed by ixgen.py). Conditions: none. -/
import Derived.Test.YthnngndnpigjbaaGreatIxComp
import Derived.Test.YthnngndnpigjbaaGreatOrd
import Derived.Deep.Cut
import Derived.Deep.CutRange
import Derived.Deep.DeepCutAuto
namespace Go.Proofs.YthnngndnpigjbaaGreat
open Go.RowKit Go.Lib
variable {fs : List ByteArray} {Af : Option Addr} {cf Bf : Nat}

/-- Two places of a row changed. -/
def swp (D : List Nat) (j p : Nat) (x s : Nat) : List Nat := (D.set j s).set p x
def swapW (w : World) (g j p : Nat) (x s : Nat) : World := (w.setCell ⟨g, j, none⟩ (.int .i64 (s : Int))).setCell ⟨g, p, none⟩ (.int .i64 (x : Int))
theorem sl_swap {w : World} {g c N j p : Nat} {D : List Nat} (x s : Nat) (h : Sl w 1 (.slice (some ⟨g, 0, none⟩) N c) N (ixC D)) (hj : j < N) (hp : p < N) :
    Sl (swapW w g j p x s) 1 (.slice (some ⟨g, 0, none⟩) N c) N (ixC (swp D j p x s)) := by
  have h2 := (h.set_ (g := g) rfl j (.int .i64 (s : Int)) (by omega)).set_ (g := g) rfl p (.int .i64 (x : Int)) (by omega)
  rw [← ixC_set, ← ixC_set] at h2
  exact h2
theorem keep_swap {w0 w : World} {g : Nat} (j p : Nat) (x s : Nat) (h : KeepK (fun i => i < w0.heap.size ∧ i ≠ g) w0 w) : KeepK (fun i => i < w0.heap.size ∧ i ≠ g) w0 (swapW w g j p x s) :=
  (h.setCell (p := ⟨g, j, none⟩) (fun _ hi => hi.2) _).setCell (p := ⟨g, p, none⟩) (fun _ hi => hi.2) _
theorem swap_mid2 (P Q R : List Nat) (x s : Nat) {j p : Nat} (hj : j = P.length) (hp : p = P.length + 1 + Q.length) : swp (P ++ x :: (Q ++ s :: R)) j p x s = P ++ s :: (Q ++ x :: R) := by
  subst hj hp
  unfold swp
  rw [List.set_append_right _ _ (by omega), List.set_append_right _ _ (by omega)]
  simp only [Nat.sub_self, List.set_cons_zero]
  rw [show P.length + 1 + Q.length - P.length = Q.length + 1 by omega, List.set_cons_succ, List.set_append_right _ _ (by omega)]
  simp
theorem at_fst (P Q R : List Nat) (x s : Nat) : (P ++ x :: (Q ++ s :: R))[P.length]? = some x := by simp
theorem at_snd (P Q R : List Nat) (x s : Nat) : (P ++ x :: (Q ++ s :: R))[P.length + 1 + Q.length]? = some s := by
  rw [List.getElem?_append_right (by omega), show P.length + 1 + Q.length - P.length = Q.length + 1 by omega, List.getElem?_cons_succ, List.getElem?_append_right (by omega)]
  simp

set_option maxRecDepth 100000 in
set_option maxHeartbeats 4000000 in
theorem swapR_any (g c a b n N : Nat) (X A M B Y : List Nat) (w : World) (hS : Sl w 1 (.slice (some ⟨g, 0, none⟩) N c) N (ixC (X ++ (A ++ (M ++ (B ++ Y))))))
    (hN : (X ++ (A ++ (M ++ (B ++ Y)))).length = N) (hn : N ≤ 1000000) (hAB : A.length = B.length) (ha : a = X.length) (hb : b = X.length + A.length + M.length) (hnn : n = A.length) :
    Calls Tryz.prog 105 #[.slice (some ⟨g, 0, none⟩) N c, .int .i64 (a : Int), .int .i64 (b : Int), .int .i64 (n : Int), .func (.func 56) #[] #[.pointer (some ⟨Bf, 0, none⟩)]] w fun e w' => e = .returned (.tuple #[]) ∧ Sl w' 1 (.slice (some ⟨g, 0, none⟩) N c) N (ixC (X ++ (B ++ (M ++ (A ++ Y))))) ∧ KeepK (fun i => i < w.heap.size ∧ i ≠ g) w w' := by
  have hN3 : N = X.length + (A.length + (M.length + (B.length + Y.length))) := by rw [← hN]; simp
  have hNI : (N : Int) ≤ 1000000 := by omega
  have haI : (a : Int) ≤ 1000000 := by omega
  have hbI : (b : Int) ≤ 1000000 := by omega
  have hnI : (n : Int) ≤ 1000000 := by omega
  have HS := Lib.hid hS
  have HAB := Lib.hid (And.intro ha (And.intro hb (And.intro hnn (And.intro hAB hN3))))
  clear hS hN hn hAB ha hb hnn hN3
  go_enter Tryz.func105, Tryz.ntmps105
  go_wp2_with (fail)
  go_loopg [10] n (fun gg v10 wr => ∃ i : Nat, v10 = .int .i64 (i : Int) ∧ Aside (gg + i = n) ∧ Aside (Sl wr 1 (.slice (some ⟨g, 0, none⟩) N c) N (ixC (X ++ ((B.take i ++ A.drop i) ++ (M ++ ((A.take i ++ B.drop i) ++ Y)))))) ∧ Aside (KeepK (fun i => i < w.heap.size ∧ i ≠ g) w wr))
  case atStart => exact ⟨0, rfl, rfl, HS.out, KeepK.refl _ _⟩
  case round =>
    obtain ⟨i, rfl, hg, hRow, hK⟩ := hrel
    by_cases hlt : i < n
    · obtain ⟨x, hx⟩ : ∃ x, A[i]? = some x := ⟨_, List.getElem?_eq_getElem (by have := HAB.out; omega)⟩
      obtain ⟨s, hs⟩ : ∃ s, B[i]? = some s := ⟨_, List.getElem?_eq_getElem (by have := HAB.out; omega)⟩
      obtain ⟨j, hj⟩ : ∃ j, a + i = j := ⟨_, rfl⟩
      obtain ⟨p, hp⟩ : ∃ p, b + i = p := ⟨_, rfl⟩
      have hltI : (i : Int) < (n : Int) := by omega
      obtain ⟨q1, q2⟩ := List.getElem?_eq_some_iff.1 hx
      obtain ⟨q3, q4⟩ := List.getElem?_eq_some_iff.1 hs
      have eD : X ++ ((B.take i ++ A.drop i) ++ (M ++ ((A.take i ++ B.drop i) ++ Y))) = (X ++ B.take i) ++ x :: ((A.drop (i + 1) ++ (M ++ A.take i)) ++ s :: (B.drop (i + 1) ++ Y)) := by
        rw [List.drop_eq_getElem_cons q1, List.drop_eq_getElem_cons q3, q2, q4]; simp
      have eE : X ++ ((B.take (i + 1) ++ A.drop (i + 1)) ++ (M ++ ((A.take (i + 1) ++ B.drop (i + 1)) ++ Y))) = (X ++ B.take i) ++ s :: ((A.drop (i + 1) ++ (M ++ A.take i)) ++ x :: (B.drop (i + 1) ++ Y)) := by
        rw [List.take_succ_eq_append_getElem q1, List.take_succ_eq_append_getElem q3, q2, q4]; simp
      have lj : j = (X ++ B.take i).length := by have := HAB.out; simp; omega
      have lp : p = (X ++ B.take i).length + 1 + (A.drop (i + 1) ++ (M ++ A.take i)).length := by have := HAB.out; simp; omega
      have hR2 := hRow.out
      rw [eD] at hR2
      have hjN : j < N := by have := HAB.out; omega
      have hpN : p < N := by have := HAB.out; omega
      have hatx := at_fst (X ++ B.take i) (A.drop (i + 1) ++ (M ++ A.take i)) (B.drop (i + 1) ++ Y) x s
      have hats := at_snd (X ++ B.take i) (A.drop (i + 1) ++ (M ++ A.take i)) (B.drop (i + 1) ++ Y) x s
      rw [← lj] at hatx
      rw [← lp] at hats
      have hSW := swap_mid2 (X ++ B.take i) (A.drop (i + 1) ++ (M ++ A.take i)) (B.drop (i + 1) ++ Y) x s lj lp
      have c0 : wr.cell? ⟨g, j, none⟩ = some (.int .i64 (x : Int)) := hR2.cell rfl (ixC_at hatx)
      have d0 : wr.cell? ⟨g, p, none⟩ = some (.int .i64 (s : Int)) := hR2.cell rfl (ixC_at hats)
      have f0 := hR2.free (g := g) rfl (j := j) (by omega)
      have f2 := hR2.free (g := g) rfl (j := p) (by omega)
      have hjp : j < p := by omega
      have n1 : (⟨g, p, none⟩ : Addr) ≠ ⟨g, j, none⟩ := by intro h; injection h; omega
      have u0 : (wr.setCell ⟨g, j, none⟩ (.int .i64 (s : Int))).cell? ⟨g, p, none⟩ = some (.int .i64 (s : Int)) := by rw [World.cell?_setCell_other _ _ _ _ n1.symm]; exact d0
      have hw1 : IntKind.i64.wrap ((a : Int) + (i : Int)) = (j : Int) := by rw [IntKind.wrap_i64]; omega
      have hw2 : IntKind.i64.wrap ((b : Int) + (i : Int)) = (p : Int) := by rw [IntKind.wrap_i64]; omega
      have hjI : (j : Int) < (N : Int) := by omega
      have hpI : (p : Int) < (N : Int) := by omega
      have HJ := Lib.hid (And.intro hR2 (And.intro hSW (And.intro eE (And.intro hjN (And.intro hpN hlt)))))
      clear hatx hats hSW eD eE lj lp hx hs q2 q4 hR2 hjN hpN hj hp hjp hlt
      go_wp2_with (fail)
      go_region
      clear hw1 hw2 u0 n1 c0 d0 f0 f2
      go_wp2_with (fail)
      obtain ⟨hR2, hSW, eE, hjN, hpN, hlt⟩ := HJ.out
      go_roundg (n - (i + 1))
      case measure => have := hg.out; omega
      case rel =>
        refine ⟨i + 1, by go_num, ?_, ?_, ?_⟩
        · show _ = _
          have := hg.out
          omega
        · show Sl _ _ _ _ _
          have h2 := sl_swap x s hR2 hjN hpN
          rw [hSW, ← eE] at h2
          exact h2.drew
        · exact (keep_swap j p x s hK.out).drew
    · have hltI : ¬ (i : Int) < (n : Int) := by omega
      have hin : i = n := by have := hg.out; omega
      have HI := Lib.hid hin
      clear hin hlt
      go_wp2_with (fail)
      refine bodyPost_end (results_none rfl _ _ _) rfl ?_
      have h1 := hRow.out
      rw [List.take_of_length_le (by have := HAB.out; have := HI.out; omega), List.take_of_length_le (by have := HAB.out; have := HI.out; omega), List.drop_eq_nil_of_le (by have := HAB.out; have := HI.out; omega), List.drop_eq_nil_of_le (by have := HAB.out; have := HI.out; omega), List.append_nil, List.append_nil] at h1
      exact ⟨rfl, h1, hK.out⟩
end Go.Proofs.YthnngndnpigjbaaGreat

namespace Go.Proofs.YthnngndnpigjbaaGreat
open Go.RowKit Go.Lib
variable {fs : List ByteArray} {Af : Option Addr} {cf Bf : Nat}

set_option maxRecDepth 100000 in
set_option maxHeartbeats 4000000 in
theorem rotate_any (g c a m b N : Nat) (X U V Y : List Nat) (w : World) (hS : Sl w 1 (.slice (some ⟨g, 0, none⟩) N c) N (ixC (X ++ (U ++ (V ++ Y)))))
    (hN : (X ++ (U ++ (V ++ Y))).length = N) (hn : N ≤ 1000000) (ha : a = X.length) (hm : m = X.length + U.length) (hb : b = X.length + U.length + V.length) (hU : 1 ≤ U.length) (hV : 1 ≤ V.length) :
    Calls Tryz.prog 103 #[.slice (some ⟨g, 0, none⟩) N c, .int .i64 (a : Int), .int .i64 (m : Int), .int .i64 (b : Int), .func (.func 56) #[] #[.pointer (some ⟨Bf, 0, none⟩)]] w fun e w' => e = .returned (.tuple #[]) ∧ Sl w' 1 (.slice (some ⟨g, 0, none⟩) N c) N (ixC (X ++ (V ++ (U ++ Y)))) ∧ KeepK (fun i => i < w.heap.size ∧ i ≠ g) w w' := by
  have hN3 : N = X.length + (U.length + (V.length + Y.length)) := by rw [← hN]; simp
  have hNI : (N : Int) ≤ 1000000 := by omega
  have haI : (a : Int) ≤ 1000000 := by omega
  have hmI : (m : Int) ≤ 1000000 := by omega
  have hbI : (b : Int) ≤ 1000000 := by omega
  have e1 : (m : Int) - (a : Int) = (U.length : Int) := by omega
  have e2 : (b : Int) - (m : Int) = (V.length : Int) := by omega
  have HS := Lib.hid hS
  have HAB := Lib.hid (And.intro hm (And.intro hU (And.intro hV (And.intro hN3 hn))))
  have HE := Lib.hid (And.intro e1 e2)
  clear hS hN hn ha hm hb hN3 hU hV e1 e2
  go_enter Tryz.func103, Tryz.ntmps103
  go_wp2_with (fail)
  go_loopg [10, 11] (U.length + V.length) (fun gg v10 v11 wr => ∃ (i j : Nat) (X1 U1 V1 Y1 : List Nat), v10 = .int .i64 (i : Int) ∧ v11 = .int .i64 (j : Int) ∧ Aside (i = U1.length ∧ j = V1.length ∧ 1 ≤ i ∧ 1 ≤ j ∧ m = X1.length + i ∧ gg = i + j) ∧ Aside (X1 ++ (V1 ++ (U1 ++ Y1)) = X ++ (V ++ (U ++ Y))) ∧ Aside (N = X1.length + (U1.length + (V1.length + Y1.length))) ∧ Aside (Sl wr 1 (.slice (some ⟨g, 0, none⟩) N c) N (ixC (X1 ++ (U1 ++ (V1 ++ Y1))))) ∧ Aside (KeepK (fun i => i < w.heap.size ∧ i ≠ g) w wr))
  case atStart =>
    obtain ⟨h1, h2, h3, h4, h5⟩ := HAB.out
    exact ⟨U.length, V.length, X, U, V, Y, by first | rfl | (rw [HE.out.1]), by first | rfl | (rw [HE.out.2]), ⟨rfl, rfl, h2, h3, h1, rfl⟩, rfl, h4, HS.out, KeepK.refl _ _⟩
  case round =>
    obtain ⟨i, j, X1, U1, V1, Y1, rfl, rfl, hL, hT, hNN, hRow, hK⟩ := hrel
    clear HE
    obtain ⟨p, hp⟩ : ∃ p, X1.length = p := ⟨_, rfl⟩
    have hpm : (m : Int) - (i : Int) = (p : Int) := by have := hL.out; omega
    have hiI : (i : Int) ≤ 1000000 := by have := hL.out; have := hNN.out; have := HAB.out; omega
    have hjI : (j : Int) ≤ 1000000 := by have := hL.out; have := hNN.out; have := HAB.out; omega
    by_cases hij : i = j
    · have hne : ((i : Int) != (j : Int)) = false := by subst hij; simp
      have h1 := swapR_any (Bf := Bf) g c p m i N X1 U1 [] V1 Y1 wr (by simpa using hRow.out) (by have := hNN.out; simp; omega) HAB.out.2.2.2.2 (by have := hL.out; omega) hp.symm (by have := hL.out; simp; omega) (by have := hL.out; omega)
      rw [← hpm] at h1
      have HC := Lib.hid h1
      clear h1 hij hp hpm
      go_wp2_with (fail)
      with_reducible refine HC.out.mono ?_
      rintro e w1 ⟨rfl, h2, h3⟩
      have h4 : Sl w1 1 (.slice (some ⟨g, 0, none⟩) N c) N (ixC (X ++ (V ++ (U ++ Y)))) := by
        rw [← hT.out]; simpa using h2
      have H := Lib.hid (And.intro h4 (hK.out.trans (h3.mono fun i hi => ⟨Nat.lt_of_lt_of_le hi.1 hK.out.size, hi.2⟩)))
      clear h2 h3 h4
      go_wp2_with (fail)
      refine bodyPost_end (results_none rfl _ _ _) rfl ?_
      exact ⟨rfl, H.out.1, H.out.2⟩
    · have hne : ((i : Int) != (j : Int)) = true := by simp; omega
      by_cases hgt : j < i
      · have hgtI : (j : Int) < (i : Int) := by omega
        have h1 := swapR_any (Bf := Bf) g c p m j N X1 (U1.take j) (U1.drop j) V1 Y1 wr (by rw [← List.append_assoc (U1.take j), List.take_append_drop]; exact hRow.out) (by have := hL.out; have := hNN.out; simp; omega) HAB.out.2.2.2.2 (by have := hL.out; simp; omega) hp.symm (by have := hL.out; simp; omega) (by have := hL.out; simp; omega)
        rw [← hpm] at h1
        have HC := Lib.hid h1
        have HG := Lib.hid hgt
        clear h1 hij hp hpm hgt
        go_wp2_with (fail)
        with_reducible refine HC.out.mono ?_
        rintro e w1 ⟨rfl, h2, h3⟩
        have H := Lib.hid (And.intro h2 (hK.out.trans (h3.mono fun i hi => ⟨Nat.lt_of_lt_of_le hi.1 hK.out.size, hi.2⟩)))
        clear h2 h3
        go_wp2_with (fail)
        go_roundg (i - j + j)
        case measure => have := hL.out; have := HG.out; omega
        case rel =>
          obtain ⟨l1, l2, l3, l4, l5, l6⟩ := hL.out
          have hg := HG.out
          refine ⟨i - j, j, X1 ++ V1, U1.drop j, U1.take j, Y1, ?_, rfl, ⟨?_, ?_, ?_, ?_, ?_, rfl⟩, ?_, ?_, ?_, H.out.2⟩
          · congr 1; omega
          · simp; omega
          · simp; omega
          · omega
          · omega
          · simp; omega
          · show _ = _
            rw [← hT.out]
            have e : X1 ++ V1 ++ (U1.take j ++ (U1.drop j ++ Y1)) = X1 ++ (V1 ++ ((U1.take j ++ U1.drop j) ++ Y1)) := by simp only [List.append_assoc]
            rw [e, List.take_append_drop]
          · show _ = _
            have := hNN.out
            simp; omega
          · show Sl _ _ _ _ _
            have h2 := H.out.1
            rw [show X1 ++ V1 ++ (U1.drop j ++ (U1.take j ++ Y1)) = X1 ++ (V1 ++ (U1.drop j ++ (U1.take j ++ Y1))) by simp]
            exact h2
      · have hgtI : ¬ (j : Int) < (i : Int) := by omega
        obtain ⟨q, hq⟩ : ∃ q, m + j - i = q := ⟨_, rfl⟩
        have hqm : (m : Int) + (j : Int) - (i : Int) = (q : Int) := by omega
        have h1 := swapR_any (Bf := Bf) g c p q i N X1 U1 (V1.take (j - i)) (V1.drop (j - i)) Y1 wr (by rw [← List.append_assoc (V1.take (j - i)), List.take_append_drop]; exact hRow.out) (by have := hL.out; have := hNN.out; simp; omega) HAB.out.2.2.2.2 (by have := hL.out; simp; omega) hp.symm (by have := hL.out; simp; omega) (by have := hL.out; omega)
        rw [← hpm, ← hqm] at h1
        have HC := Lib.hid h1
        have HG := Lib.hid (show i < j by omega)
        clear h1 hij hp hpm hgt hq hqm
        go_wp2_with (fail)
        with_reducible refine HC.out.mono ?_
        rintro e w1 ⟨rfl, h2, h3⟩
        have H := Lib.hid (And.intro h2 (hK.out.trans (h3.mono fun i hi => ⟨Nat.lt_of_lt_of_le hi.1 hK.out.size, hi.2⟩)))
        clear h2 h3
        go_wp2_with (fail)
        go_roundg (i + (j - i))
        case measure => have := hL.out; have := HG.out; omega
        case rel =>
          obtain ⟨l1, l2, l3, l4, l5, l6⟩ := hL.out
          have hg := HG.out
          refine ⟨i, j - i, X1, V1.drop (j - i), V1.take (j - i), U1 ++ Y1, rfl, ?_, ⟨?_, ?_, ?_, ?_, ?_, rfl⟩, ?_, ?_, ?_, H.out.2⟩
          · congr 1; omega
          · simp; omega
          · simp; omega
          · omega
          · omega
          · omega
          · show _ = _
            rw [← hT.out]
            have e : X1 ++ (V1.take (j - i) ++ (V1.drop (j - i) ++ (U1 ++ Y1))) = X1 ++ ((V1.take (j - i) ++ V1.drop (j - i)) ++ (U1 ++ Y1)) := by simp only [List.append_assoc]
            rw [e, List.take_append_drop]
          · show _ = _
            have := hNN.out
            simp; omega
          · exact H.out.1
end Go.Proofs.YthnngndnpigjbaaGreat

namespace Go.Proofs.YthnngndnpigjbaaGreat
open Go.RowKit Go.Lib
variable {fs : List ByteArray} {Af : Option Addr} {cf Bf : Nat}

/-- What a row of places holds when two parts of it were merged. -/
def MgPost (fs : List ByteArray) (g c N : Nat) (X M Y : List Nat) (w : World) (e : Ending) (w' : World) : Prop :=
  e = .returned (.tuple #[]) ∧ ∃ M', SrtK (keyF fs) cmpS M' ∧ StS (keyF fs) M' M ∧ Sl w' 1 (.slice (some ⟨g, 0, none⟩) N c) N (ixC (X ++ (M' ++ Y))) ∧ KeepK (fun i => i < w.heap.size ∧ i ≠ g) w w'
theorem at_behind {α : Type} (X M Y : List α) {k : Nat} (h : k < M.length) : (X ++ (M ++ Y))[X.length + k]? = M[k]? := by
  rw [List.getElem?_append_right (by omega), Nat.add_sub_cancel_left, List.getElem?_append_left h]
theorem half (n : Nat) : n / 2 * 2 ≤ n ∧ n < n / 2 * 2 + 2 := by omega

set_option maxRecDepth 100000 in
set_option maxHeartbeats 8000000 in
theorem sym_front (g c a m b N : Nat) (X R Y : List Nat) (x : Nat) (w : World) (hS : Sl w 1 (.slice (some ⟨g, 0, none⟩) N c) N (ixC (X ++ (x :: R ++ Y)))) (hP : IxOk w g Bf Af cf fs (x :: R))
    (hN : (X ++ (x :: R ++ Y)).length = N) (hn : N ≤ 1000000) (ha : a = X.length) (hm : m = a + 1) (hb : b = m + R.length) (hR : SrtK (keyF fs) cmpS R) :
    Calls Tryz.prog 92 #[.slice (some ⟨g, 0, none⟩) N c, .int .i64 (a : Int), .int .i64 (m : Int), .int .i64 (b : Int), .func (.func 56) #[] #[.pointer (some ⟨Bf, 0, none⟩)]] w (MgPost fs g c N X (x :: R) Y w) := by
  have hN3 : N = X.length + (1 + R.length + Y.length) := by rw [← hN]; simp; omega
  have hNI : (N : Int) ≤ 1000000 := by omega
  have haI : (a : Int) ≤ 1000000 := by omega
  have hmI : (m : Int) ≤ 1000000 := by omega
  have hbI : (b : Int) ≤ 1000000 := by omega
  have ht0 : ((m : Int) - (a : Int) == 1) = true := by simp; omega
  have HS := Lib.hid (And.intro hS (And.intro hP hR))
  have HAB := Lib.hid (And.intro ha (And.intro hm (And.intro hb hN3)))
  clear hS hP hN hn ha hm hb hN3 hR
  go_enter Tryz.func92, Tryz.ntmps92
  go_wp2_with (fail)
  go_loopg [10, 11, 12] (b - m) (fun gg v10 v11 _ wr => ∃ i j : Nat, v10 = .int .i64 (i : Int) ∧ v11 = .int .i64 (j : Int) ∧ Aside (m ≤ i ∧ i ≤ j ∧ j ≤ b ∧ gg = j - i) ∧ Aside (i = m ∨ ∃ y, R[i - m - 1]? = some y ∧ cmpS (keyF fs y) (keyF fs x) < 0) ∧ Aside (j = b ∨ ∃ y, R[j - m]? = some y ∧ ¬ cmpS (keyF fs y) (keyF fs x) < 0) ∧ Aside (Below w.heap.size w wr))
  case atStart => exact ⟨m, b, rfl, rfl, ⟨Nat.le_refl _, by have := HAB.out; omega, Nat.le_refl _, rfl⟩, .inl rfl, .inl rfl, Below.refl _ _⟩
  case round =>
    obtain ⟨i, j, rfl, rfl, hij, hlo, hhi, hB⟩ := hrel
    have hiI : (i : Int) ≤ 1000000 := by have := hij.out; omega
    have hjI : (j : Int) ≤ 1000000 := by have := hij.out; omega
    by_cases hlt : i < j
    · have hltI : (i : Int) < (j : Int) := by omega
      obtain ⟨k, hk⟩ : ∃ k, (i + j) / 2 = k := ⟨_, rfl⟩
      have hh : ((i : Int) + (j : Int)) / 2 = (k : Int) := by omega
      have hk1 : i ≤ k := by omega
      have hk2 : k < j := by omega
      obtain ⟨y, hy⟩ : ∃ y, R[k - m]? = some y := ⟨_, List.getElem?_eq_getElem (by have := hij.out; have := HAB.out; omega)⟩
      have hRow : Sl wr 1 (.slice (some ⟨g, 0, none⟩) N c) N (ixC (X ++ (x :: R ++ Y))) := HS.out.1.below hB.out HS.out.1.lt
      have hatx : (X ++ (x :: R ++ Y))[k]? = some y := by
        have h1 := at_behind X (x :: R) Y (k := k - m + 1) (by have := hij.out; have := HAB.out; simp; omega)
        rw [show X.length + (k - m + 1) = k by have := hij.out; have := HAB.out; omega, List.getElem?_cons_succ, hy] at h1
        exact h1
      have hats : (X ++ (x :: R ++ Y))[a]? = some x := by
        have h1 := at_behind X (x :: R) Y (k := 0) (by simp)
        rw [Nat.add_zero, ← HAB.out.1] at h1
        exact h1
      have hPl : IxOk wr g Bf Af cf fs (x :: R) := HS.out.2.1.keep (KeepK.of_below hB.out fun i hi => hi.1)
      have hxm : y ∈ x :: R := List.mem_cons_of_mem _ (List.mem_of_getElem? hy)
      have hsm : x ∈ x :: R := by simp
      have hkN : (k : Int) < (N : Int) := by have := hij.out; have := HAB.out; omega
      have haN : (a : Int) < (N : Int) := by have := HAB.out; omega
      have hkI : (k : Int) ≤ 1000000 := by omega
      have HY := Lib.hid (And.intro hy (And.intro hk1 hk2))
      have c0' : wr.cell? ⟨g, k, none⟩ = some (.int .i64 (y : Int)) := hRow.cell rfl (ixC_at hatx)
      have d0' : wr.cell? ⟨g, a, none⟩ = some (.int .i64 (x : Int)) := hRow.cell rfl (ixC_at hats)

      have hgl : g < wr.heap.size := hRow.lt g rfl
      have c0 : ∀ qb : BelowOf wr, qb.X.cell? ⟨g, k, none⟩ = some (.int .i64 (y : Int)) := fun qb => qb.cell (a := ⟨g, k, none⟩) hgl c0'
      have d0 : ∀ qb : BelowOf wr, qb.X.cell? ⟨g, a, none⟩ = some (.int .i64 (x : Int)) := fun qb => qb.cell (a := ⟨g, a, none⟩) hgl d0'
      clear c0' d0'
      have HCL := Lib.hid (fun W (hW : Below wr.heap.size wr W) => rise_any (hPl.key.low hW) hPl.ln y x (hPl.lt y hxm) (hPl.lt x hsm))
      obtain ⟨z, hz⟩ : ∃ z, cmpS (keyF fs y) (keyF fs x) = z := ⟨_, rfl⟩
      rw [hz] at HCL
      have HZ := Lib.hid hz
      clear hz hatx hats hPl hxm hsm hRow hk hk1 hk2 hlt hy
      by_cases hz0 : z < 0
      all_goals
        first | have hze : decide (z < 0) = true := decide_eq_true hz0 | have hze : decide (z < 0) = false := decide_eq_false hz0
      all_goals
        go_wp2_with (fail)
      all_goals

        try clear hh
        refine wp_region_low (by kernel_rfl) (by kernel_rfl) ?_
        repeat (refine low_step (fun K hK => ?_); go_simp; first | (refine hK _ ?_; clear hK K) | (apply Exists.intro; refine ⟨fun q => ?_, hK _ ?_⟩; (first | (go_at_call 56; exact calls_low (HCL.out _ q.h))); clear hK K))
        refine low_nil ?_
        rintro ⟨W5, hb5⟩
        dsimp only
        have HBF := Lib.hid hb5
        clear hb5 c0 d0
      · try go_wp2_with (fail)
        go_roundg (j - (k + 1))
        case measure => have := hij.out; have := HY.out; omega
        case rel =>
          obtain ⟨h1, h2, h3, h4⟩ := hij.out
          obtain ⟨q1, q2, q3⟩ := HY.out
          refine ⟨k + 1, j, by go_num, rfl, ⟨by omega, by omega, h3, rfl⟩, .inr ⟨y, ?_, by rw [HZ.out]; exact hz0⟩, hhi, hB.out.trans (HBF.out.mono hB.out.size)⟩
          rw [show k + 1 - m - 1 = k - m by omega]; exact q1
      · try go_wp2_with (fail)
        go_roundg (k - i)
        case measure => have := hij.out; have := HY.out; omega
        case rel =>
          obtain ⟨h1, h2, h3, h4⟩ := hij.out
          obtain ⟨q1, q2, q3⟩ := HY.out
          exact ⟨i, k, rfl, rfl, ⟨by omega, by omega, by omega, rfl⟩, hlo, .inr ⟨y, q1, by rw [HZ.out]; exact hz0⟩, hB.out.trans (HBF.out.mono hB.out.size)⟩
    · have hltI : ¬ (i : Int) < (j : Int) := by omega
      obtain rfl : i = j := by have := hij.out; omega
      obtain ⟨t, ht⟩ : ∃ t, i - m = t := ⟨_, rfl⟩
      have hfin := ins_front cmpS_tot (key := keyF fs) HS.out.2.2 (x := x) (j := t)
        (by rcases hlo.out with h | ⟨y, h1, h2⟩
            · left; omega
            · right; exact ⟨y, by rw [← ht]; exact h1, h2⟩)
        (by rcases hhi.out with h | ⟨y, h1, h2⟩
            · left; have := HAB.out; omega
            · right; exact ⟨y, by rw [← ht]; exact h1, h2⟩)
      have hti : i = a + 1 + t ∧ t ≤ R.length := by have := hij.out; have := HAB.out; omega
      have HF := Lib.hid (And.intro hfin hti)
      have HS2 := Lib.hid (HS.out.1.below hB.out HS.out.1.lt)
      clear hfin ht hlo hhi hti hlt
      go_wp2_with (fail)
      go_loopg [13] t (fun gg v13 wr => ∃ u k : Nat, v13 = .int .i64 (k : Int) ∧ Aside (k = a + u) ∧ Aside (gg + u = t) ∧ Aside (Sl wr 1 (.slice (some ⟨g, 0, none⟩) N c) N (ixC (X ++ ((R.take u ++ x :: R.drop u) ++ Y)))) ∧ Aside (KeepK (fun i => i < w.heap.size ∧ i ≠ g) w wr))
      case atStart => exact ⟨0, a, rfl, rfl, rfl, HS2.out, KeepK.of_below hB.out fun i hi => hi.1⟩
      case round =>
        rename_i wq _ _ _
        obtain ⟨u, k, rfl, hku, hgu, hRow0, hK⟩ := hrel
        have hkI : (k : Int) ≤ 1000000 := by have := hku.out; have := hgu.out; have := HF.out.2; omega
        by_cases hlt : u < t
        · obtain ⟨s, hs⟩ : ∃ s, R[u]? = some s := ⟨_, List.getElem?_eq_getElem (by have := HF.out.2; omega)⟩
          have hlt2 : (k : Int) < (i : Int) - 1 := by have := hku.out; have := HF.out.2; omega
          obtain ⟨q, hq⟩ : ∃ q, k + 1 = q := ⟨_, rfl⟩
          obtain ⟨h1, h2⟩ := List.getElem?_eq_some_iff.1 hs
          have eD : X ++ ((R.take u ++ x :: R.drop u) ++ Y) = (X ++ R.take u) ++ x :: ([] ++ s :: (R.drop (u + 1) ++ Y)) := by rw [List.drop_eq_getElem_cons h1, h2]; simp
          have eE : X ++ ((R.take (u + 1) ++ x :: R.drop (u + 1)) ++ Y) = (X ++ R.take u) ++ s :: ([] ++ x :: (R.drop (u + 1) ++ Y)) := by rw [List.take_succ_eq_append_getElem h1, h2]; simp
          have hRow := hRow0.out
          rw [eD] at hRow
          have lk : k = (X ++ R.take u).length := by have := hku.out; have := HAB.out; simp; omega
          have lq : q = (X ++ R.take u).length + 1 + ([] : List Nat).length := by rw [← lk, ← hq]; rfl
          have hkN : k < N := by have := hku.out; have := HAB.out; omega
          have hqN : q < N := by have := hku.out; have := HAB.out; omega
          have hatx := at_fst (X ++ R.take u) [] (R.drop (u + 1) ++ Y) x s
          have hats := at_snd (X ++ R.take u) [] (R.drop (u + 1) ++ Y) x s
          rw [← lk] at hatx
          rw [← lq] at hats
          have hSW := swap_mid2 (X ++ R.take u) [] (R.drop (u + 1) ++ Y) x s lk lq
          have hkNI : (k : Int) < (N : Int) := by omega
          have hqNI : (q : Int) < (N : Int) := by omega
          have hw1 : IntKind.i64.wrap ((k : Int) + 1) = (q : Int) := by rw [IntKind.wrap_i64]; omega
          have HJ := Lib.hid (And.intro hSW (And.intro eE (And.intro hkN (And.intro hqN (And.intro hlt hq)))))
          have c0 : wr.cell? ⟨g, k, none⟩ = some (.int .i64 (x : Int)) := hRow.cell rfl (ixC_at hatx)
          have d0 : wr.cell? ⟨g, q, none⟩ = some (.int .i64 (s : Int)) := hRow.cell rfl (ixC_at hats)

          have f0 := hRow.free (g := g) rfl (j := k) (by omega)
          have f2 := hRow.free (g := g) rfl (j := q) (by omega)
          have n1 : (⟨g, q, none⟩ : Addr) ≠ ⟨g, k, none⟩ := by intro h; injection h; omega
          have u0 : (wr.setCell ⟨g, k, none⟩ (.int .i64 (s : Int))).cell? ⟨g, q, none⟩ = some (.int .i64 (s : Int)) := by rw [World.cell?_setCell_other _ _ _ _ n1.symm]; exact d0
          have HRW := Lib.hid hRow
          clear hatx hats hRow  hSW eE eD hkN hqN hq hlt lk lq hs h2
          go_wp2_with (fail)
          go_region
          clear u0 n1 c0 d0 f0 f2
          go_wp2_with (fail)
          obtain ⟨hSW, eE, hkN, hqN, hlt, hq⟩ := HJ.out
          clear hw1
          go_roundg (t - (u + 1))
          case measure => have := hgu.out; omega
          case rel =>
            refine ⟨u + 1, k + 1, by go_num, (by show _ = _; have := hku.out; omega), (by show _ = _; have := hgu.out; omega), ?_, (keep_swap k q x s hK.out).drew⟩
            show Sl _ _ _ _ _
            have h2 := sl_swap x s HRW.out hkN hqN
            rw [hSW, ← eE] at h2
            exact h2.drew
        · have hlt2 : ¬ (k : Int) < (i : Int) - 1 := by have := hku.out; have := HF.out.2; omega
          have hut : u = t := by have := hgu.out; omega
          have HU := Lib.hid hut
          clear hut hlt
          go_wp2_with (fail)
          refine bodyPost_end (results_none rfl _ _ _) rfl ?_
          refine ⟨rfl, R.take t ++ x :: R.drop t, HF.out.1.1, HF.out.1.2, ?_, hK.out⟩
          have h1 := hRow0.out
          rw [HU.out] at h1
          exact h1
end Go.Proofs.YthnngndnpigjbaaGreat

namespace Go.Proofs.YthnngndnpigjbaaGreat
open Go.RowKit Go.Lib
variable {fs : List ByteArray} {Af : Option Addr} {cf Bf : Nat}

theorem swap_mid3 (P Q R : List Nat) (y s : Nat) {j p : Nat} (hp : p = P.length) (hj : j = P.length + 1 + Q.length) : swp (P ++ s :: (Q ++ y :: R)) j p y s = P ++ y :: (Q ++ s :: R) := by
  subst hj hp
  unfold swp
  rw [List.set_append_right _ _ (by omega), List.set_append_right _ _ (by omega)]
  rw [show P.length + 1 + Q.length - P.length = Q.length + 1 by omega, List.set_cons_succ, List.set_append_right _ _ (by omega)]
  simp

set_option maxRecDepth 100000 in
set_option maxHeartbeats 8000000 in
theorem sym_back (g c a m b N : Nat) (X L Y : List Nat) (y : Nat) (w : World) (hS : Sl w 1 (.slice (some ⟨g, 0, none⟩) N c) N (ixC (X ++ ((L ++ [y]) ++ Y)))) (hP : IxOk w g Bf Af cf fs (L ++ [y]))
    (hN : (X ++ ((L ++ [y]) ++ Y)).length = N) (hn : N ≤ 1000000) (ha : a = X.length) (hm : m = a + L.length) (hb : b = m + 1) (hL2 : 2 ≤ L.length) (hL : SrtK (keyF fs) cmpS L) :
    Calls Tryz.prog 92 #[.slice (some ⟨g, 0, none⟩) N c, .int .i64 (a : Int), .int .i64 (m : Int), .int .i64 (b : Int), .func (.func 56) #[] #[.pointer (some ⟨Bf, 0, none⟩)]] w (MgPost fs g c N X (L ++ [y]) Y w) := by
  have hN3 : N = X.length + (L.length + 1 + Y.length) := by rw [← hN]; simp; omega
  have hNI : (N : Int) ≤ 1000000 := by omega
  have haI : (a : Int) ≤ 1000000 := by omega
  have hmI : (m : Int) ≤ 1000000 := by omega
  have hbI : (b : Int) ≤ 1000000 := by omega
  have ht0 : ((m : Int) - (a : Int) == 1) = false := by simp; omega
  have ht1 : ((b : Int) - (m : Int) == 1) = true := by simp; omega
  have HS := Lib.hid (And.intro hS (And.intro hP hL))
  have HAB := Lib.hid (And.intro ha (And.intro hm (And.intro hb hN3)))
  clear hS hP hN hn ha hm hb hN3 hL hL2
  go_enter Tryz.func92, Tryz.ntmps92
  go_wp2_with (fail)
  go_loopg [14, 15, 16] (m - a) (fun gg v14 v15 _ wr => ∃ i j : Nat, v14 = .int .i64 (i : Int) ∧ v15 = .int .i64 (j : Int) ∧ Aside (a ≤ i ∧ i ≤ j ∧ j ≤ m ∧ gg = j - i) ∧ Aside (i = a ∨ ∃ x, L[i - a - 1]? = some x ∧ ¬ cmpS (keyF fs y) (keyF fs x) < 0) ∧ Aside (j = m ∨ ∃ x, L[j - a]? = some x ∧ cmpS (keyF fs y) (keyF fs x) < 0) ∧ Aside (Below w.heap.size w wr))
  case atStart => exact ⟨a, m, rfl, rfl, ⟨Nat.le_refl _, by have := HAB.out; omega, Nat.le_refl _, rfl⟩, .inl rfl, .inl rfl, Below.refl _ _⟩
  case round =>
    obtain ⟨i, j, rfl, rfl, hij, hlo, hhi, hB⟩ := hrel
    have hiI : (i : Int) ≤ 1000000 := by have := hij.out; omega
    have hjI : (j : Int) ≤ 1000000 := by have := hij.out; omega
    by_cases hlt : i < j
    · have hltI : (i : Int) < (j : Int) := by omega
      obtain ⟨k, hk⟩ : ∃ k, (i + j) / 2 = k := ⟨_, rfl⟩
      have hh : ((i : Int) + (j : Int)) / 2 = (k : Int) := by omega
      have hk1 : i ≤ k := by omega
      have hk2 : k < j := by omega
      obtain ⟨x, hx⟩ : ∃ x, L[k - a]? = some x := ⟨_, List.getElem?_eq_getElem (by have := hij.out; have := HAB.out; omega)⟩
      have hRow : Sl wr 1 (.slice (some ⟨g, 0, none⟩) N c) N (ixC (X ++ ((L ++ [y]) ++ Y))) := HS.out.1.below hB.out HS.out.1.lt
      have hatx : (X ++ ((L ++ [y]) ++ Y))[m]? = some y := by
        have h1 := at_behind X (L ++ [y]) Y (k := L.length) (by simp)
        rw [show X.length + L.length = m by have := HAB.out; omega] at h1
        rw [h1]; simp
      have hats : (X ++ ((L ++ [y]) ++ Y))[k]? = some x := by
        have h1 := at_behind X (L ++ [y]) Y (k := k - a) (by have := hij.out; have := HAB.out; simp; omega)
        rw [show X.length + (k - a) = k by have := hij.out; have := HAB.out; omega, List.getElem?_append_left (l₁ := L) (l₂ := [y]) (by have := hij.out; have := HAB.out; omega), hx] at h1
        exact h1
      have hPl : IxOk wr g Bf Af cf fs (L ++ [y]) := HS.out.2.1.keep (KeepK.of_below hB.out fun i hi => hi.1)
      have hxm : y ∈ L ++ [y] := by simp
      have hsm : x ∈ L ++ [y] := List.mem_append_left _ (List.mem_of_getElem? hx)
      have hkN : (k : Int) < (N : Int) := by have := hij.out; have := HAB.out; omega
      have hmN : (m : Int) < (N : Int) := by have := HAB.out; omega
      have hkI : (k : Int) ≤ 1000000 := by omega
      have HY := Lib.hid (And.intro hx (And.intro hk1 hk2))
      have c0' : wr.cell? ⟨g, m, none⟩ = some (.int .i64 (y : Int)) := hRow.cell rfl (ixC_at hatx)
      have d0' : wr.cell? ⟨g, k, none⟩ = some (.int .i64 (x : Int)) := hRow.cell rfl (ixC_at hats)

      have hgl : g < wr.heap.size := hRow.lt g rfl
      have c0 : ∀ qb : BelowOf wr, qb.X.cell? ⟨g, m, none⟩ = some (.int .i64 (y : Int)) := fun qb => qb.cell (a := ⟨g, m, none⟩) hgl c0'
      have d0 : ∀ qb : BelowOf wr, qb.X.cell? ⟨g, k, none⟩ = some (.int .i64 (x : Int)) := fun qb => qb.cell (a := ⟨g, k, none⟩) hgl d0'
      clear c0' d0'
      have HCL := Lib.hid (fun W (hW : Below wr.heap.size wr W) => rise_any (hPl.key.low hW) hPl.ln y x (hPl.lt y hxm) (hPl.lt x hsm))
      obtain ⟨z, hz⟩ : ∃ z, cmpS (keyF fs y) (keyF fs x) = z := ⟨_, rfl⟩
      rw [hz] at HCL
      have HZ := Lib.hid hz
      clear hz hatx hats hPl hxm hsm hRow hk hk1 hk2 hlt hx
      by_cases hz0 : z < 0
      all_goals
        first | have hze : decide (z < 0) = true := decide_eq_true hz0 | have hze : decide (z < 0) = false := decide_eq_false hz0
        go_wp2_with (fail)

        try clear hh
        refine wp_region_low (by kernel_rfl) (by kernel_rfl) ?_
        repeat (refine low_step (fun K hK => ?_); go_simp; first | (refine hK _ ?_; clear hK K) | (apply Exists.intro; refine ⟨fun q => ?_, hK _ ?_⟩; (first | (go_at_call 56; exact calls_low (HCL.out _ q.h))); clear hK K))
        refine low_nil ?_
        rintro ⟨W5, hb5⟩
        dsimp only
        have HBF := Lib.hid hb5
        clear hb5 c0 d0
      · try go_wp2_with (fail)
        go_roundg (k - i)
        case measure => have := hij.out; have := HY.out; omega
        case rel =>
          obtain ⟨h1, h2, h3, h4⟩ := hij.out
          obtain ⟨q1, q2, q3⟩ := HY.out
          exact ⟨i, k, rfl, rfl, ⟨by omega, by omega, by omega, rfl⟩, hlo, .inr ⟨x, q1, by rw [HZ.out]; exact hz0⟩, hB.out.trans (HBF.out.mono hB.out.size)⟩
      · try go_wp2_with (fail)
        go_roundg (j - (k + 1))
        case measure => have := hij.out; have := HY.out; omega
        case rel =>
          obtain ⟨h1, h2, h3, h4⟩ := hij.out
          obtain ⟨q1, q2, q3⟩ := HY.out
          refine ⟨k + 1, j, by go_num, rfl, ⟨by omega, by omega, h3, rfl⟩, .inr ⟨x, ?_, by rw [HZ.out]; exact hz0⟩, hhi, hB.out.trans (HBF.out.mono hB.out.size)⟩
          rw [show k + 1 - a - 1 = k - a by omega]; exact q1
    · have hltI : ¬ (i : Int) < (j : Int) := by omega
      obtain rfl : i = j := by have := hij.out; omega
      obtain ⟨t, ht⟩ : ∃ t, i - a = t := ⟨_, rfl⟩
      have hfin := ins_back cmpS_tot (key := keyF fs) HS.out.2.2 (y := y) (i := t)
        (by rcases hlo.out with h | ⟨x, h1, h2⟩
            · left; omega
            · right; exact ⟨x, by rw [← ht]; exact h1, h2⟩)
        (by rcases hhi.out with h | ⟨x, h1, h2⟩
            · left; have := HAB.out; omega
            · right; exact ⟨x, by rw [← ht]; exact h1, h2⟩)
      have hti : i = a + t ∧ t ≤ L.length := by have := hij.out; have := HAB.out; omega
      have HF := Lib.hid (And.intro hfin hti)
      have HS2 := Lib.hid (HS.out.1.below hB.out HS.out.1.lt)
      clear hfin ht hlo hhi hti hlt
      go_wp2_with (fail)
      go_loopg [17] (L.length - t) (fun gg v17 wr => ∃ u k : Nat, v17 = .int .i64 (k : Int) ∧ Aside (k = a + u) ∧ Aside (gg + t = u ∧ u ≤ L.length) ∧ Aside (Sl wr 1 (.slice (some ⟨g, 0, none⟩) N c) N (ixC (X ++ ((L.take u ++ y :: L.drop u) ++ Y)))) ∧ Aside (KeepK (fun i => i < w.heap.size ∧ i ≠ g) w wr))
      case atStart =>
        refine ⟨L.length, m, rfl, HAB.out.2.1, ⟨by have := HF.out.2; omega, Nat.le_refl _⟩, ?_, KeepK.of_below hB.out fun i hi => hi.1⟩
        show Sl _ _ _ _ _
        rw [List.take_length, List.drop_length]
        exact HS2.out
      case round =>
        obtain ⟨u, k, rfl, hku, hgu, hRow0, hK⟩ := hrel
        have hkI : (k : Int) ≤ 1000000 := by have := hku.out; have := hgu.out; have := HAB.out; omega
        by_cases hlt : t < u
        · obtain ⟨v, rfl⟩ : ∃ v, u = v + 1 := ⟨u - 1, by omega⟩
          obtain ⟨s, hs⟩ : ∃ s, L[v]? = some s := ⟨_, List.getElem?_eq_getElem (by have := hgu.out; omega)⟩
          have hlt2 : (i : Int) < (k : Int) := by have := hku.out; have := HF.out.2; omega
          obtain ⟨q, hq⟩ : ∃ q, k - 1 = q := ⟨_, rfl⟩
          obtain ⟨h1, h2⟩ := List.getElem?_eq_some_iff.1 hs
          have eD : X ++ ((L.take (v + 1) ++ y :: L.drop (v + 1)) ++ Y) = (X ++ L.take v) ++ s :: ([] ++ y :: (L.drop (v + 1) ++ Y)) := by rw [List.take_succ_eq_append_getElem h1, h2]; simp
          have eE : X ++ ((L.take v ++ y :: L.drop v) ++ Y) = (X ++ L.take v) ++ y :: ([] ++ s :: (L.drop (v + 1) ++ Y)) := by rw [List.drop_eq_getElem_cons h1, h2]; simp
          have hRow := hRow0.out
          rw [eD] at hRow
          have lq : q = (X ++ L.take v).length := by have := hku.out; have := HAB.out; simp; omega
          have lk : k = (X ++ L.take v).length + 1 + ([] : List Nat).length := by rw [← lq, ← hq]; have := hku.out; simp; omega
          have hkN : k < N := by have := hku.out; have := hgu.out; have := HAB.out; omega
          have hqN : q < N := by omega
          have hats := at_fst (X ++ L.take v) [] (L.drop (v + 1) ++ Y) s y
          have hatx := at_snd (X ++ L.take v) [] (L.drop (v + 1) ++ Y) s y
          rw [← lk] at hatx
          rw [← lq] at hats
          have hSW := swap_mid3 (X ++ L.take v) [] (L.drop (v + 1) ++ Y) y s lq lk
          have hkNI : (k : Int) < (N : Int) := by omega
          have hqNI : (q : Int) < (N : Int) := by omega
          have hqk : q + 1 = k := by have := hku.out; omega
          have hw1 : IntKind.i64.wrap ((k : Int) - 1) = (q : Int) := by rw [IntKind.wrap_i64]; omega
          have HJ := Lib.hid (And.intro hSW (And.intro eE (And.intro hkN (And.intro hqN (And.intro hlt hqk)))))
          have c0 : wr.cell? ⟨g, k, none⟩ = some (.int .i64 (y : Int)) := hRow.cell rfl (ixC_at hatx)
          have d0 : wr.cell? ⟨g, q, none⟩ = some (.int .i64 (s : Int)) := hRow.cell rfl (ixC_at hats)

          have f0 := hRow.free (g := g) rfl (j := k) (by omega)
          have f2 := hRow.free (g := g) rfl (j := q) (by omega)
          have n1 : (⟨g, q, none⟩ : Addr) ≠ ⟨g, k, none⟩ := by intro h; injection h; omega
          have u0 : (wr.setCell ⟨g, k, none⟩ (.int .i64 (s : Int))).cell? ⟨g, q, none⟩ = some (.int .i64 (s : Int)) := by rw [World.cell?_setCell_other _ _ _ _ n1.symm]; exact d0
          have HRW := Lib.hid hRow
          clear hatx hats hRow  hSW eE eD hkN hqN hq hlt lk lq hs h2 hqk
          go_wp2_with (fail)
          go_region
          clear u0 n1 c0 d0 f0 f2
          go_wp2_with (fail)
          obtain ⟨hSW, eE, hkN, hqN, hlt, hqk⟩ := HJ.out
          clear hw1
          go_roundg (v - t)
          case measure => have := hgu.out; omega
          case rel =>
            refine ⟨v, q, by first | rfl | (congr 1; omega), (by show _ = _; have := hku.out; omega), (by show _ ∧ _; have := hgu.out; omega), ?_, (keep_swap k q y s hK.out).drew⟩
            show Sl _ _ _ _ _
            have h2 := sl_swap y s HRW.out hkN hqN
            rw [hSW, ← eE] at h2
            exact h2.drew
        · have hlt2 : ¬ (i : Int) < (k : Int) := by have := hku.out; have := HF.out.2; omega
          have hut : u = t := by have := hgu.out; omega
          have HU := Lib.hid hut
          clear hut hlt
          go_wp2_with (fail)
          refine bodyPost_end (results_none rfl _ _ _) rfl ?_
          refine ⟨rfl, L.take t ++ y :: L.drop t, HF.out.1.1, HF.out.1.2, ?_, hK.out⟩
          have h1 := hRow0.out
          rw [HU.out] at h1
          exact h1
end Go.Proofs.YthnngndnpigjbaaGreat

namespace Go.Proofs.YthnngndnpigjbaaGreat
open Go.RowKit Go.Lib
variable {fs : List ByteArray} {Af : Option Addr} {cf Bf : Nat}

/-- A merge of fewer than n places does what it must. -/
def SymOk (fs : List ByteArray) (Af : Option Addr) (cf Bf g c N n : Nat) : Prop := ∀ (a m b : Nat) (X L R Y : List Nat) (w : World), L.length + R.length < n → Sl w 1 (.slice (some ⟨g, 0, none⟩) N c) N (ixC (X ++ ((L ++ R) ++ Y))) → IxOk w g Bf Af cf fs (L ++ R) →
  (X ++ ((L ++ R) ++ Y)).length = N → a = X.length → m = a + L.length → b = m + R.length → 1 ≤ L.length → 1 ≤ R.length → SrtK (keyF fs) cmpS L → SrtK (keyF fs) cmpS R →
  Calls Tryz.prog 92 #[.slice (some ⟨g, 0, none⟩) N c, .int .i64 (a : Int), .int .i64 (m : Int), .int .i64 (b : Int), .func (.func 56) #[] #[.pointer (some ⟨Bf, 0, none⟩)]] w (MgPost fs g c N X (L ++ R) Y w)

set_option maxRecDepth 100000 in
set_option maxHeartbeats 16000000 in
theorem sym_mid (g c a m b N : Nat) (X L R Y : List Nat) (w : World) (hS : Sl w 1 (.slice (some ⟨g, 0, none⟩) N c) N (ixC (X ++ ((L ++ R) ++ Y)))) (hP : IxOk w g Bf Af cf fs (L ++ R))
    (hN : (X ++ ((L ++ R) ++ Y)).length = N) (hn : N ≤ 1000000) (ha : a = X.length) (hm : m = a + L.length) (hb : b = m + R.length) (hL2 : 2 ≤ L.length) (hR2 : 2 ≤ R.length) (hL : SrtK (keyF fs) cmpS L) (hR : SrtK (keyF fs) cmpS R)
    (IH : SymOk fs Af cf Bf g c N (L.length + R.length)) :
    Calls Tryz.prog 92 #[.slice (some ⟨g, 0, none⟩) N c, .int .i64 (a : Int), .int .i64 (m : Int), .int .i64 (b : Int), .func (.func 56) #[] #[.pointer (some ⟨Bf, 0, none⟩)]] w (MgPost fs g c N X (L ++ R) Y w) := by
  have hN3 : N = X.length + (L.length + R.length + Y.length) := by rw [← hN]; simp; omega
  have hNI : (N : Int) ≤ 1000000 := by omega
  have haI : (a : Int) ≤ 1000000 := by omega
  have hmI : (m : Int) ≤ 1000000 := by omega
  have hbI : (b : Int) ≤ 1000000 := by omega
  have ht0 : ((m : Int) - (a : Int) == 1) = false := by simp; omega
  have ht1 : ((b : Int) - (m : Int) == 1) = false := by simp; omega
  obtain ⟨mid, hmid⟩ : ∃ mid, (a + b) / 2 = mid := ⟨_, rfl⟩
  obtain ⟨nn, hnn⟩ : ∃ nn, mid + m = nn := ⟨_, rfl⟩
  obtain ⟨p, hp⟩ : ∃ p, nn - 1 = p := ⟨_, rfl⟩
  have hh : ((a : Int) + (b : Int)) / 2 = (mid : Int) := by omega
  have hnI : (mid : Int) + (m : Int) = (nn : Int) := by omega
  have hpI : (nn : Int) - 1 = (p : Int) := by omega
  have hmidI : (mid : Int) ≤ 1000000 := by omega
  have hnnI : (nn : Int) ≤ 2000000 := by omega
  have hb1 : a + 2 ≤ mid ∧ mid + 2 ≤ b ∧ nn = mid + m ∧ p + 1 = nn ∧ 2 * mid ≤ a + b ∧ a + b ≤ 2 * mid + 1 := by omega
  obtain ⟨lo, hi, hlh⟩ : ∃ lo hi, (mid < m ∧ lo + b = nn ∧ hi = mid) ∨ (m ≤ mid ∧ lo = a ∧ hi = m) := by
    by_cases h : mid < m
    · exact ⟨nn - b, mid, .inl ⟨h, by omega, rfl⟩⟩
    · exact ⟨a, m, .inr ⟨by omega, rfl, rfl⟩⟩
  have hloI : (lo : Int) ≤ 1000000 := by omega
  have hhiI : (hi : Int) ≤ 1000000 := by omega
  have HS := Lib.hid (And.intro hS (And.intro hP (And.intro hL hR)))
  have HAB := Lib.hid (And.intro ha (And.intro hm (And.intro hb (And.intro hN3 (And.intro hb1 (And.intro hL2 hR2))))))
  have HLH := Lib.hid hlh
  have HIH := Lib.hid IH
  have HNN := Lib.hid (And.intro hN hn)
  clear hS hP hN hn ha hm hb hN3 hL hR hL2 hR2 hb1 hlh IH hmid hnn hp
  go_enter Tryz.func92, Tryz.ntmps92
  go_upto_if 140 with (fail)
  clear hh
  go_cut [20, 21] (fun s20 s21 wx => s20 = .int .i64 (lo : Int) ∧ s21 = .int .i64 (hi : Int) ∧ wx = w)
  case first =>
    by_cases h : (mid : Int) < (m : Int)
    all_goals
      go_wp2_with (fail)
      go_meet
      case rel => exact ⟨by congr 1; have := HLH.out; omega, by congr 1; have := HLH.out; omega, rfl⟩
  case rest =>
    obtain ⟨rfl, rfl, hw0⟩ := hcut
    have hw1 := hw0.symm
    subst hw1
    clear ht0 ht1
    go_wp2_with (fail)
    clear hnI hpI
    go_loopg [20, 21, 23] (hi - lo) (fun gg v20 v21 _ wr => ∃ s r : Nat, v20 = .int .i64 (s : Int) ∧ v21 = .int .i64 (r : Int) ∧ Aside (lo ≤ s ∧ s ≤ r ∧ r ≤ hi ∧ gg = r - s) ∧ Aside (s = lo ∨ ∃ x y, L[s - a - 1]? = some x ∧ R[nn - s - m]? = some y ∧ ¬ cmpS (keyF fs y) (keyF fs x) < 0) ∧ Aside (r = hi ∨ ∃ x y, R[p - r - m]? = some x ∧ L[r - a]? = some y ∧ cmpS (keyF fs x) (keyF fs y) < 0) ∧ Aside (Below w.heap.size w wr))
    case atStart => exact ⟨lo, hi, rfl, rfl, ⟨Nat.le_refl _, by have := HLH.out; have := HAB.out; omega, Nat.le_refl _, rfl⟩, .inl rfl, .inl rfl, Below.refl _ _⟩
    case round =>
      obtain ⟨i, j, rfl, rfl, hij, hlo, hhi, hB⟩ := hrel
      have hiI : (i : Int) ≤ 1000000 := by have := hij.out; omega
      have hjI : (j : Int) ≤ 1000000 := by have := hij.out; omega
      by_cases hlt : i < j
      · have hltI : (i : Int) < (j : Int) := by omega
        obtain ⟨k, hk⟩ : ∃ k, (i + j) / 2 = k := ⟨_, rfl⟩
        have hk1 : i ≤ k := by omega
        have hk2 : k < j := by omega
        obtain ⟨q, hq⟩ : ∃ q, p - k = q := ⟨_, rfl⟩
        have hkr : a ≤ k ∧ k < m ∧ m ≤ q ∧ q < b ∧ q + k = p := by have := hij.out; have := HLH.out; have := HAB.out; omega
        obtain ⟨x, hx⟩ : ∃ x, L[k - a]? = some x := ⟨_, List.getElem?_eq_getElem (by have := HAB.out; omega)⟩
        obtain ⟨y, hy⟩ : ∃ y, R[q - m]? = some y := ⟨_, List.getElem?_eq_getElem (by have := HAB.out; omega)⟩
        have hRow : Sl wr 1 (.slice (some ⟨g, 0, none⟩) N c) N (ixC (X ++ ((L ++ R) ++ Y))) := HS.out.1.below hB.out HS.out.1.lt
        have hatx : (X ++ ((L ++ R) ++ Y))[q]? = some y := by
          have h1 := at_behind X (L ++ R) Y (k := q - a) (by have := HAB.out; simp; omega)
          rw [show X.length + (q - a) = q by have := HAB.out; omega, List.getElem?_append_right (l₁ := L) (l₂ := R) (by have := HAB.out; omega), show q - a - L.length = q - m by have := HAB.out; omega, hy] at h1
          exact h1
        have hats : (X ++ ((L ++ R) ++ Y))[k]? = some x := by
          have h1 := at_behind X (L ++ R) Y (k := k - a) (by have := HAB.out; simp; omega)
          rw [show X.length + (k - a) = k by have := HAB.out; omega, List.getElem?_append_left (l₁ := L) (l₂ := R) (by have := HAB.out; omega), hx] at h1
          exact h1
        have hPl : IxOk wr g Bf Af cf fs (L ++ R) := HS.out.2.1.keep (KeepK.of_below hB.out fun i hi => hi.1)
        have hxm : y ∈ L ++ R := List.mem_append_right _ (List.mem_of_getElem? hy)
        have hsm : x ∈ L ++ R := List.mem_append_left _ (List.mem_of_getElem? hx)
        have hkN : (k : Int) < (N : Int) := by have := HAB.out; omega
        have hqN : (q : Int) < (N : Int) := by have := HAB.out; omega
        have hkI : (k : Int) ≤ 1000000 := by omega
        have hw1 : IntKind.i64.wrap ((p : Int) - (k : Int)) = (q : Int) := by rw [IntKind.wrap_i64]; omega
        have hh : ((i : Int) + (j : Int)) / 2 = (k : Int) := by omega
        have HY := Lib.hid (And.intro hx (And.intro hy (And.intro hk1 (And.intro hk2 hkr))))
        have c0' : wr.cell? ⟨g, q, none⟩ = some (.int .i64 (y : Int)) := hRow.cell rfl (ixC_at hatx)
        have d0' : wr.cell? ⟨g, k, none⟩ = some (.int .i64 (x : Int)) := hRow.cell rfl (ixC_at hats)

        have hgl : g < wr.heap.size := hRow.lt g rfl
        have c0 : ∀ qb : BelowOf wr, qb.X.cell? ⟨g, q, none⟩ = some (.int .i64 (y : Int)) := fun qb => qb.cell (a := ⟨g, q, none⟩) hgl c0'
        have d0 : ∀ qb : BelowOf wr, qb.X.cell? ⟨g, k, none⟩ = some (.int .i64 (x : Int)) := fun qb => qb.cell (a := ⟨g, k, none⟩) hgl d0'
        clear c0' d0'
        have HCL := Lib.hid (fun W (hW : Below wr.heap.size wr W) => rise_any (hPl.key.low hW) hPl.ln y x (hPl.lt y hxm) (hPl.lt x hsm))
        obtain ⟨z, hz⟩ : ∃ z, cmpS (keyF fs y) (keyF fs x) = z := ⟨_, rfl⟩
        rw [hz] at HCL
        have HZ := Lib.hid hz
        clear hz hatx hats hPl hxm hsm hRow hk hk1 hk2 hlt hx hy hq hkr
        by_cases hz0 : z < 0
        all_goals
          first | have hze : decide (z < 0) = true := decide_eq_true hz0 | have hze : decide (z < 0) = false := decide_eq_false hz0
          go_wp2_with (fail)

          try clear hh
          refine wp_region_low (by kernel_rfl) (by kernel_rfl) ?_
          repeat (refine low_step (fun K hK => ?_); go_simp; first | (refine hK _ ?_; clear hK K) | (apply Exists.intro; refine ⟨fun q => ?_, hK _ ?_⟩; (first | (go_at_call 56; exact calls_low (HCL.out _ q.h))); clear hK K))
          refine low_nil ?_
          rintro ⟨W5, hb5⟩
          dsimp only
          have HBF := Lib.hid hb5
          clear hb5 c0 d0
        · try go_wp2_with (fail)
          go_roundg (k - i)
          case measure => have := hij.out; have := HY.out; omega
          case rel =>
            obtain ⟨h1, h2, h3, h4⟩ := hij.out
            obtain ⟨q1, q2, q3, q4, q5, q6, q7, q8, q9⟩ := HY.out
            refine ⟨i, k, rfl, rfl, ⟨by omega, by omega, by omega, rfl⟩, hlo, .inr ⟨y, x, ?_, q1, by rw [HZ.out]; exact hz0⟩, hB.out.trans (HBF.out.mono hB.out.size)⟩
            rw [show p - k - m = q - m by omega]; exact q2
        · try go_wp2_with (fail)
          go_roundg (j - (k + 1))
          case measure => have := hij.out; have := HY.out; omega
          case rel =>
            obtain ⟨h1, h2, h3, h4⟩ := hij.out
            obtain ⟨q1, q2, q3, q4, q5, q6, q7, q8, q9⟩ := HY.out
            refine ⟨k + 1, j, by go_num, rfl, ⟨by omega, by omega, h3, rfl⟩, .inr ⟨x, y, ?_, ?_, by rw [HZ.out]; exact hz0⟩, hhi, hB.out.trans (HBF.out.mono hB.out.size)⟩
            · rw [show k + 1 - a - 1 = k - a by omega]; exact q1
            · rw [show nn - (k + 1) - m = q - m by have := HAB.out; omega]; exact q2
      · have hltI : ¬ (i : Int) < (j : Int) := by omega
        obtain rfl : i = j := by have := hij.out; omega
        obtain ⟨en, hen⟩ : ∃ en, nn - i = en := ⟨_, rfl⟩
        obtain ⟨s, hs⟩ : ∃ s, i - a = s := ⟨_, rfl⟩
        obtain ⟨t, ht⟩ : ∃ t, en - m = t := ⟨_, rfl⟩
        have hst : i = a + s ∧ en = m + t ∧ s ≤ L.length ∧ t ≤ R.length ∧ s + t + a = mid := by have := hij.out; have := HLH.out; have := HAB.out; omega
        have hfin := symm_ok cmpS_tot (key := keyF fs) HS.out.2.2.1 HS.out.2.2.2 (i := s) (j := t)
          (by rcases hlo.out with h | ⟨x, y, h1, h2, h3⟩
              · have := HLH.out; have := HAB.out; omega
              · right; right
                refine ⟨x, y, ?_, ?_, h3⟩
                · rw [← hs]; exact h1
                · rw [show t = nn - i - m by omega]; exact h2)
          (by rcases hhi.out with h | ⟨x, y, h1, h2, h3⟩
              · have := HLH.out; have := HAB.out; omega
              · right; right
                refine ⟨x, y, ?_, ?_, h3⟩
                · rw [show t - 1 = p - i - m by have := HAB.out; omega]; exact h1
                · rw [← hs]; exact h2)
        obtain ⟨L1, hL1⟩ : ∃ L1, L.take s = L1 := ⟨_, rfl⟩
        obtain ⟨L2, hL2⟩ : ∃ L2, L.drop s = L2 := ⟨_, rfl⟩
        obtain ⟨R1, hR1⟩ : ∃ R1, R.take t = R1 := ⟨_, rfl⟩
        obtain ⟨R2, hR2⟩ : ∃ R2, R.drop t = R2 := ⟨_, rfl⟩
        have eL : L = L1 ++ L2 := by rw [← hL1, ← hL2, List.take_append_drop]
        have eR : R = R1 ++ R2 := by rw [← hR1, ← hR2, List.take_append_drop]
        have l1 : L1.length = s := by rw [← hL1, List.length_take]; omega
        have l2 : L2.length = L.length - s := by rw [← hL2, List.length_drop]
        have r1 : R1.length = t := by rw [← hR1, List.length_take]; omega
        have r2 : R2.length = R.length - t := by rw [← hR2, List.length_drop]
        have sL := HS.out.2.2.1
        have sR := HS.out.2.2.2
        rw [eL] at sL
        rw [eR] at sR
        have hjoin := fun (M1 M2 : List Nat) (g1 : SrtK (keyF fs) cmpS M1) (g2 : SrtK (keyF fs) cmpS M2) (e1 : StS (keyF fs) M1 (L1 ++ R1)) (e2 : StS (keyF fs) M2 (L2 ++ R2)) => symm_join cmpS_tot (key := keyF fs) (L := L) (R := R) (i := s) (j := t) hfin.1 hfin.2 g1 g2 (by rw [hL1, hR1]; exact e1) (by rw [hL2, hR2]; exact e2)
        have HJ := Lib.hid hjoin
        have HSS := Lib.hid (And.intro (srt_app.1 sL) (srt_app.1 sR))
        have HST := Lib.hid (And.intro hst (And.intro eL (And.intro eR (And.intro l1 (And.intro l2 (And.intro r1 r2))))))
        have HR0 := Lib.hid (HS.out.1.below hB.out HS.out.1.lt)
        have HK0 : Hid (KeepK (fun i => i < w.heap.size ∧ i ≠ g) w wr) := Lib.hid (KeepK.of_below hB.out fun i hi => hi.1)
        have henI2 : (en : Int) ≤ 2000000 := by have := HAB.out; omega
        have henI : (nn : Int) - (i : Int) = (en : Int) := by have := HAB.out; omega
        clear hfin hjoin hs ht hst hL1 hL2 hR1 hR2 eL eR l1 l2 r1 r2 sL sR hlo hhi hlt hen
        obtain ⟨tb, htb⟩ : ∃ tb, decide (i < m ∧ m < en) = tb := ⟨_, rfl⟩
        go_upto_region 39 with (fail)
        clear henI
        go_cut [185] (fun v wx => v = .bool tb ∧ wx = wr)
        case first =>
          as_aux_lemma =>
          by_cases h1 : i < m
          · have h1I : (i : Int) < (m : Int) := by omega
            by_cases h2 : m < en
            · have h2I : (m : Int) < (en : Int) := by omega
              go_wp2_with (fail)
              go_meet
              case rel => exact ⟨by rw [← htb]; simp [h1, h2], rfl⟩
            · have h2I : ¬ (m : Int) < (en : Int) := by omega
              go_wp2_with (fail)
              go_meet
              case rel => exact ⟨by rw [← htb]; simp [h1, h2], rfl⟩
          · have h1I : ¬ (i : Int) < (m : Int) := by omega
            go_wp2_with (fail)
            go_meet
            case rel => exact ⟨by rw [← htb]; simp [h1], rfl⟩
        case rest =>
        obtain ⟨rfl, hw0⟩ := hcut
        have hw1 := hw0.symm
        subst hw1
        go_upto_if 185 with (fail)
        go_cut [] (fun wx => Aside (Sl wx 1 (.slice (some ⟨g, 0, none⟩) N c) N (ixC (X ++ ((L1 ++ R1) ++ ((L2 ++ R2) ++ Y))))) ∧ Aside (KeepK (fun i => i < w.heap.size ∧ i ≠ g) w wx))
        case first =>
          as_aux_lemma =>
          have hD0 : Sl wr 1 (.slice (some ⟨g, 0, none⟩) N c) N (ixC (X ++ ((L1 ++ L2 ++ (R1 ++ R2)) ++ Y))) := by
            have h1 := HR0.out
            rw [HST.out.2.1, HST.out.2.2.1] at h1
            exact h1
          have hlenN : (X ++ ((L1 ++ L2 ++ (R1 ++ R2)) ++ Y)).length = N := by
            have h1 := HNN.out.1
            rw [HST.out.2.1, HST.out.2.2.1] at h1
            exact h1
          cases tb with
          | true =>
            have h12 := of_decide_eq_true htb
            have hrot := rotate_any (Bf := Bf) g c i m en N (X ++ L1) L2 R1 (R2 ++ Y) wr (by simpa using hD0) (by simpa using hlenN) HNN.out.2
              (by have := HST.out.1; have := HST.out.2.2.2.1; have := HAB.out.1; simp; omega) (by have := HST.out; have := HAB.out; simp; omega) (by have := HST.out; have := HAB.out; simp; omega) (by have := HST.out; have := HAB.out; omega) (by have := HST.out; omega)
            have HC := Lib.hid hrot
            clear hD0 hlenN hrot h12
            go_wp2_with (fail)
            with_reducible refine HC.out.mono ?_
            rintro e w1 ⟨rfl, h2, h3⟩
            have H := Lib.hid (And.intro h2 (HK0.out.trans (h3.mono fun i hi => ⟨Nat.lt_of_lt_of_le hi.1 HK0.out.size, hi.2⟩)))
            clear h2 h3
            go_wp2_with (fail)
            go_meet
            case rel => exact ⟨by have h := H.out.1; show Sl _ _ _ _ _; simpa using h, H.out.2⟩
          | false =>
            have h12 := of_decide_eq_false htb
            have hemp : L2 = [] ∨ R1 = [] := by
              by_cases h1 : i < m
              · right
                have h2 : ¬ m < en := fun h => h12 ⟨h1, h⟩
                exact List.eq_nil_of_length_eq_zero (by have := HST.out; omega)
              · left
                exact List.eq_nil_of_length_eq_zero (by have := HST.out; have := HAB.out; omega)
            have HD := Lib.hid (show Sl wr 1 (.slice (some ⟨g, 0, none⟩) N c) N (ixC (X ++ ((L1 ++ R1) ++ ((L2 ++ R2) ++ Y)))) from by
              rcases hemp with h | h
              · rw [h] at hD0 ⊢; simpa using hD0
              · rw [h] at hD0 ⊢; simpa using hD0)
            clear hD0 hlenN h12 hemp
            go_wp2_with (fail)
            go_meet
            case rel => exact ⟨HD.out, HK0.out⟩
        case rest =>
        obtain ⟨hD1, hK1⟩ := hcut
        obtain ⟨w2, rfl⟩ : ∃ w2, w2 = wc := ⟨_, rfl⟩
        obtain ⟨tc, htc⟩ : ∃ tc, decide (a < i ∧ i < mid) = tc := ⟨_, rfl⟩
        go_upto_region 41 with (fail)
        go_cut [199] (fun v wx => v = .bool tc ∧ wx = w2)
        case first =>
          as_aux_lemma =>
          by_cases h1 : a < i
          · have h1I : (a : Int) < (i : Int) := by omega
            by_cases h2 : i < mid
            · have h2I : (i : Int) < (mid : Int) := by omega
              go_wp2_with (fail)
              go_meet
              case rel => exact ⟨by rw [← htc]; simp [h1, h2], rfl⟩
            · have h2I : ¬ (i : Int) < (mid : Int) := by omega
              go_wp2_with (fail)
              go_meet
              case rel => exact ⟨by rw [← htc]; simp [h1, h2], rfl⟩
          · have h1I : ¬ (a : Int) < (i : Int) := by omega
            go_wp2_with (fail)
            go_meet
            case rel => exact ⟨by rw [← htc]; simp [h1], rfl⟩
        case rest =>
        obtain ⟨rfl, hw0⟩ := hcut
        have hw1 := hw0.symm
        subst hw1
        go_upto_if 199 with (fail)
        go_cut [] (fun wx => ∃ M1, Aside (SrtK (keyF fs) cmpS M1 ∧ StS (keyF fs) M1 (L1 ++ R1)) ∧ Aside (Sl wx 1 (.slice (some ⟨g, 0, none⟩) N c) N (ixC (X ++ (M1 ++ ((L2 ++ R2) ++ Y))))) ∧ Aside (KeepK (fun i => i < w.heap.size ∧ i ≠ g) w wx))
        case first =>
          as_aux_lemma =>
          cases tc with
          | true =>
            have h12 := of_decide_eq_true htc
            have hP2 : IxOk w2 g Bf Af cf fs (L1 ++ R1) := (HS.out.2.1.keep hK1.out).mem fun q hq => by
              rw [HST.out.2.1, HST.out.2.2.1]
              rcases List.mem_append.1 hq with h | h <;> simp [h]
            have hcall := HIH.out a i mid X L1 R1 ((L2 ++ R2) ++ Y) w2 (by have := HST.out; have := HAB.out; omega) hD1.out hP2
              (by have h1 := HNN.out.1; rw [HST.out.2.1, HST.out.2.2.1] at h1; rw [← h1]; simp; omega) HAB.out.1 (by have := HST.out; omega) (by have := HST.out; omega) (by have := HST.out; omega) (by have := HST.out; omega) HSS.out.1.1 HSS.out.2.1
            have HC := Lib.hid hcall
            clear hP2 hcall h12
            go_wp2_with (fail)
            with_reducible refine HC.out.mono ?_
            rintro e w3 ⟨rfl, M1, g1, g2, g3, g4⟩
            have H := Lib.hid (And.intro g1 (And.intro g2 (And.intro g3 (hK1.out.trans (g4.mono fun i hi => ⟨Nat.lt_of_lt_of_le hi.1 hK1.out.size, hi.2⟩)))))
            clear g1 g2 g3 g4
            go_wp2_with (fail)
            go_meet
            case rel => exact ⟨M1, ⟨H.out.1, H.out.2.1⟩, H.out.2.2.1, H.out.2.2.2⟩
          | false =>
            have h12 := of_decide_eq_false htc
            have hs1 : SrtK (keyF fs) cmpS (L1 ++ R1) := by
              by_cases h1 : a < i
              · have h2 : ¬ i < mid := fun h => h12 ⟨h1, h⟩
                have : R1 = [] := List.eq_nil_of_length_eq_zero (by have := HST.out; omega)
                rw [this, List.append_nil]; exact HSS.out.1.1
              · have : L1 = [] := List.eq_nil_of_length_eq_zero (by have := HST.out; omega)
                rw [this, List.nil_append]; exact HSS.out.2.1
            have HD := Lib.hid hs1
            clear h12 hs1
            go_wp2_with (fail)
            go_meet
            case rel => exact ⟨L1 ++ R1, ⟨HD.out, StS.refl _⟩, hD1.out, hK1.out⟩
        case rest =>
        obtain ⟨M1, hM1, hD3, hK3⟩ := hcut
        obtain ⟨w4, rfl⟩ : ∃ w4, w4 = wc := ⟨_, rfl⟩
        have hM1l := hM1.out.2.len
        obtain ⟨td, htd⟩ : ∃ td, decide (mid < en ∧ en < b) = td := ⟨_, rfl⟩
        go_upto_region 43 with (fail)
        go_cut [213] (fun v wx => v = .bool td ∧ wx = w4)
        case first =>
          as_aux_lemma =>
          by_cases h1 : mid < en
          · have h1I : (mid : Int) < (en : Int) := by omega
            by_cases h2 : en < b
            · have h2I : (en : Int) < (b : Int) := by omega
              go_wp2_with (fail)
              go_meet
              case rel => exact ⟨by rw [← htd]; simp [h1, h2], rfl⟩
            · have h2I : ¬ (en : Int) < (b : Int) := by omega
              go_wp2_with (fail)
              go_meet
              case rel => exact ⟨by rw [← htd]; simp [h1, h2], rfl⟩
          · have h1I : ¬ (mid : Int) < (en : Int) := by omega
            go_wp2_with (fail)
            go_meet
            case rel => exact ⟨by rw [← htd]; simp [h1], rfl⟩
        case rest =>
        obtain ⟨rfl, hw0⟩ := hcut
        have hw1 := hw0.symm
        subst hw1
        cases td with
        | true =>
          have h12 := of_decide_eq_true htd
          have hP2 : IxOk w4 g Bf Af cf fs (L2 ++ R2) := (HS.out.2.1.keep hK3.out).mem fun q hq => by
            rw [HST.out.2.1, HST.out.2.2.1]
            rcases List.mem_append.1 hq with h | h <;> simp [h]
          have hcall := HIH.out mid en b (X ++ M1) L2 R2 Y w4 (by have := HST.out; have := HAB.out; omega) (by have h := hD3.out; simpa using h) hP2
            (by have h1 := HNN.out.1; rw [HST.out.2.1, HST.out.2.2.1] at h1; rw [← h1]; simp at hM1l ⊢; omega) (by have := HST.out; have := HAB.out; simp at hM1l ⊢; omega) (by have := HST.out; have := HAB.out; omega) (by have := HST.out; have := HAB.out; omega) (by have := HST.out; have := HAB.out; omega) (by have := HST.out; have := HAB.out; omega) HSS.out.1.2.1 HSS.out.2.2.1
          have HC := Lib.hid hcall
          clear hP2 hcall h12 hM1l
          go_wp2_with (fail)
          with_reducible refine HC.out.mono ?_
          rintro e w5 ⟨rfl, M2, g1, g2, g3, g4⟩
          have H := Lib.hid (And.intro g1 (And.intro g2 (And.intro g3 (hK3.out.trans (g4.mono fun i hi => ⟨Nat.lt_of_lt_of_le hi.1 hK3.out.size, hi.2⟩)))))
          clear g1 g2 g3 g4
          go_wp2_with (fail)
          refine bodyPost_end (results_none rfl _ _ _) rfl ?_
          obtain ⟨g1, g2, g3, g4⟩ := H.out
          obtain ⟨k1, k2⟩ := HJ.out M1 M2 hM1.out.1 g1 hM1.out.2 g2
          exact ⟨rfl, M1 ++ M2, k1, k2, by simpa using g3, g4⟩
        | false =>
          have h12 := of_decide_eq_false htd
          have hs1 : SrtK (keyF fs) cmpS (L2 ++ R2) := by
            by_cases h1 : mid < en
            · have h2 : ¬ en < b := fun h => h12 ⟨h1, h⟩
              have : R2 = [] := List.eq_nil_of_length_eq_zero (by have := HST.out; have := HAB.out; omega)
              rw [this, List.append_nil]; exact HSS.out.1.2.1
            · have : L2 = [] := List.eq_nil_of_length_eq_zero (by have := HST.out; have := HAB.out; omega)
              rw [this, List.nil_append]; exact HSS.out.2.2.1
          obtain ⟨k1, k2⟩ := HJ.out M1 (L2 ++ R2) hM1.out.1 hs1 hM1.out.2 (StS.refl _)
          have HD := Lib.hid (And.intro k1 k2)
          clear h12 hs1 k1 k2 hM1l
          go_wp2_with (fail)
          refine bodyPost_end (results_none rfl _ _ _) rfl ?_
          have hh := hD3.out
          exact ⟨rfl, M1 ++ (L2 ++ R2), HD.out.1, HD.out.2, by simpa using hh, hK3.out⟩

/-- The merge, whatever there is. -/
theorem sym_any (g c N : Nat) (hn : N ≤ 1000000) : ∀ n, SymOk fs Af cf Bf g c N n
  | 0 => fun a m b X L R Y w h => absurd h (Nat.not_lt_zero _)
  | n + 1 => fun a m b X L R Y w h hS hP hN ha hm hb hL1 hR1 hL hR => by
    by_cases h1 : L.length = 1
    · obtain ⟨x, rfl⟩ := List.length_eq_one_iff.1 h1
      exact sym_front g c a m b N X R Y x w hS hP hN hn ha hm hb hR
    · by_cases h2 : R.length = 1
      · obtain ⟨y, rfl⟩ := List.length_eq_one_iff.1 h2
        exact sym_back g c a m b N X L Y y w hS hP hN hn ha hm hb (by omega) hL
      · have ih := sym_any g c N hn n
        exact sym_mid g c a m b N X L R Y w hS hP hN hn ha hm hb (by omega) (by omega) hL hR fun a' m' b' X' L' R' Y' w' h' => ih a' m' b' X' L' R' Y' w' (by omega)
end Go.Proofs.YthnngndnpigjbaaGreat

namespace Go.Proofs.YthnngndnpigjbaaGreat
open Go.RowKit Go.Lib
variable {fs : List ByteArray} {Af : Option Addr} {cf Bf : Nat}

/-- A row of full blocks, each in order. -/
def Full (fs : List ByteArray) (bs : Nat) (Cs : List (List Nat)) : Prop := ∀ C ∈ Cs, C.length = bs ∧ SrtK (keyF fs) cmpS C
theorem Full.snoc {bs : Nat} {Cs : List (List Nat)} {M : List Nat} (h : Full fs bs Cs) (hl : M.length = bs) (hs : SrtK (keyF fs) cmpS M) : Full fs bs (Cs ++ [M]) := fun C hC => by
  rcases List.mem_append.1 hC with h1 | h1
  · exact h C h1
  · rw [List.mem_singleton.1 h1]; exact ⟨hl, hs⟩
theorem flat_snoc (Cs : List (List Nat)) (M : List Nat) : (Cs ++ [M]).flatten = Cs.flatten ++ M := by simp
theorem sts_mid {X M M' Y P : List Nat} (h : StS (keyF fs) M' M) (g : StS (keyF fs) (X ++ (M ++ Y)) P) : StS (keyF fs) (X ++ (M' ++ Y)) P :=
  ((StS.refl X).append (h.append (StS.refl Y))).trans g
theorem IxOk.sts {w w' : World} {g : Nat} {D P : List Nat} (h : IxOk w g Bf Af cf fs P) (hs : StS (keyF fs) D P) (hk : KeepK (fun i => i < w.heap.size ∧ i ≠ g) w w') : IxOk w' g Bf Af cf fs D := (h.keep hk).mem fun _ hq => hs.mem hq
theorem sym_go (g c N a m b : Nat) (X L R Y : List Nat) (w : World) (hn : N ≤ 1000000) (hS : Sl w 1 (.slice (some ⟨g, 0, none⟩) N c) N (ixC (X ++ ((L ++ R) ++ Y)))) (hP : IxOk w g Bf Af cf fs (L ++ R))
    (hN : (X ++ ((L ++ R) ++ Y)).length = N) (ha : a = X.length) (hm : m = a + L.length) (hb : b = m + R.length) (hL1 : 1 ≤ L.length) (hR1 : 1 ≤ R.length) (hL : SrtK (keyF fs) cmpS L) (hR : SrtK (keyF fs) cmpS R) :
    Calls Tryz.prog 92 #[.slice (some ⟨g, 0, none⟩) N c, .int .i64 (a : Int), .int .i64 (m : Int), .int .i64 (b : Int), .func (.func 56) #[] #[.pointer (some ⟨Bf, 0, none⟩)]] w (MgPost fs g c N X (L ++ R) Y w) :=
  sym_any g c N hn (L.length + R.length + 1) a m b X L R Y w (Nat.lt_succ_self _) hS hP hN ha hm hb hL1 hR1 hL hR
theorem keep_on {g : Nat} {w w1 w2 : World} (h : KeepK (fun i => i < w.heap.size ∧ i ≠ g) w w1) (k : KeepK (fun i => i < w1.heap.size ∧ i ≠ g) w1 w2) : KeepK (fun i => i < w.heap.size ∧ i ≠ g) w w2 :=
  h.trans (k.mono fun _ hi => ⟨Nat.lt_of_lt_of_le hi.1 h.size, hi.2⟩)
theorem pair_next {bs : Nat} {Es : List (List Nat)} {L : List Nat} (h : Full fs bs Es) (hl : L.length ≤ bs) (hs : SrtK (keyF fs) cmpS L) (hb : 1 ≤ bs) (h2 : 2 * bs ≤ (Es.flatten ++ L).length) :
    ∃ (A1 A2 : List Nat) (Es' : List (List Nat)) (L' : List Nat), Es.flatten ++ L = (A1 ++ A2) ++ (Es'.flatten ++ L') ∧ A1.length = bs ∧ A2.length = bs ∧ SrtK (keyF fs) cmpS A1 ∧ SrtK (keyF fs) cmpS A2 ∧ Full fs bs Es' ∧ L'.length ≤ bs ∧ SrtK (keyF fs) cmpS L' := by
  match Es, h, h2 with
  | [], _, h2 => simp at h2; omega
  | [F], h, h2 =>
    have hF := h F (by simp)
    refine ⟨F, L, [], [], by simp, hF.1, ?_, hF.2, hs, fun C hC => absurd hC List.not_mem_nil, by simp, List.Pairwise.nil⟩
    simp at h2
    have := hF.1
    omega
  | F :: G :: Es, h, _ =>
    have hF := h F (by simp)
    have hG := h G (by simp)
    exact ⟨F, G, Es, L, by simp, hF.1, hG.1, hF.2, hG.2, fun C hC => h C (by simp [hC]), hl, hs⟩
theorem small_srt {bs : Nat} {Es : List (List Nat)} {L : List Nat} (h : Full fs bs Es) (hs : SrtK (keyF fs) cmpS L) (hb : 1 ≤ bs) (h2 : (Es.flatten ++ L).length ≤ bs) : SrtK (keyF fs) cmpS (Es.flatten ++ L) := by
  match Es, h, h2 with
  | [], _, _ => simpa using hs
  | [F], h, h2 =>
    have hF := h F (by simp)
    simp at h2
    have h3 := hF.1
    have : L = [] := List.eq_nil_of_length_eq_zero (by omega)
    rw [this]
    simpa using hF.2
  | F :: G :: Es, h, h2 =>
    have hF := (h F (by simp)).1
    have hG := (h G (by simp)).1
    simp at h2
    omega
theorem pair_last {bs : Nat} {Es : List (List Nat)} {L : List Nat} (h : Full fs bs Es) (hl : L.length ≤ bs) (h2 : bs < (Es.flatten ++ L).length) (h3 : (Es.flatten ++ L).length < 2 * bs) :
    ∃ F, Es = [F] ∧ F.length = bs ∧ SrtK (keyF fs) cmpS F ∧ 1 ≤ L.length := by
  match Es, h, h2, h3 with
  | [], _, h2, _ => simp at h2; omega
  | [F], h, h2, _ =>
    have hF := h F (by simp)
    simp at h2
    exact ⟨F, rfl, hF.1, hF.2, by have := hF.1; omega⟩
  | F :: G :: Es, h, _, h3 =>
    have hF := (h F (by simp)).1
    have hG := (h G (by simp)).1
    simp at h3
    omega

set_option maxRecDepth 100000 in
set_option maxHeartbeats 8000000 in
theorem stable_all : StabOkI 1000 := by
  intro fs Af cf Bf g c P w hS hP hn
  obtain ⟨N, hN⟩ : ∃ N, P.length = N := ⟨_, rfl⟩
  rw [hN] at hS hn
  unfold StabQ
  rw [hN]
  have hNI : (N : Int) ≤ 1000 := by omega
  have HS := Lib.hid (And.intro hS (And.intro hP (And.intro hN hn)))
  clear hS hP hN hn
  go_enter Tryz.func78, Tryz.ntmps78
  go_wp2_with (fail)
  go_loopg [7, 8] N (fun gg v7 v8 wr => ∃ (a b : Nat) (Cs : List (List Nat)), v7 = .int .i64 (a : Int) ∧ v8 = .int .i64 (b : Int) ∧ Aside (gg + a = N ∧ b = a + 20 ∧ a = Cs.flatten.length) ∧ Aside (Full fs 20 Cs) ∧ Aside (StS (keyF fs) (Cs.flatten ++ P.drop a) P) ∧ Aside (Sl wr 1 (.slice (some ⟨g, 0, none⟩) N c) N (ixC (Cs.flatten ++ P.drop a))) ∧ Aside (KeepK (fun i => i < w.heap.size ∧ i ≠ g) w wr))
  case atStart => exact ⟨0, 20, [], rfl, rfl, ⟨rfl, rfl, rfl⟩, (show Aside _ from fun C hC => absurd hC List.not_mem_nil), StS.refl _, HS.out.1, KeepK.refl _ _⟩
  case round =>
    obtain ⟨a, b, Cs, rfl, rfl, hab, hF, hst, hRow, hK⟩ := hrel
    have hPl : IxOk wr g Bf Af cf fs (Cs.flatten ++ P.drop a) := HS.out.2.1.sts hst.out hK.out
    have haI : (a : Int) ≤ 1000 := by have := hab.out; omega
    have hbI : (b : Int) ≤ 1020 := by have := hab.out; omega
    have hNa : (Cs.flatten ++ P.drop a).length = N := by have := hab.out; have := HS.out.2.2.1; rw [List.length_append, List.length_drop]; omega
    by_cases hlt : b ≤ N
    · have hltI : (b : Int) ≤ (N : Int) := by omega
      have e1 : Cs.flatten ++ ((P.drop a).take 20 ++ (P.drop a).drop 20) = Cs.flatten ++ P.drop a := by rw [List.take_append_drop]
      have h1 := insSortI_any fs Af cf Bf g c a b Cs.flatten ((P.drop a).take 20) ((P.drop a).drop 20) wr (by rw [e1, hNa]; exact hRow.out) (by rw [e1]; exact hPl) (by rw [e1, hNa]; omega) hab.out.2.2 (by have := hab.out; have := HS.out.2.2.1; rw [List.length_take, List.length_drop]; omega)
      rw [e1, hNa] at h1
      have hlt20 : ((P.drop a).take 20).length = 20 := by have := hab.out; have := HS.out.2.2.1; rw [List.length_take, List.length_drop]; omega
      have HC := Lib.hid (And.intro h1 (And.intro hlt20 (And.intro e1 (And.intro hlt hNa))))
      clear h1 e1 hlt20 hPl hlt hNa
      go_wp2_with (fail)
      refine HC.out.1.mono ?_
      rintro e w1 ⟨rfl, M', hp1, hp2, hp3, hp4⟩
      have hlM : M'.length = 20 := by rw [hp2.len]; exact HC.out.2.1
      have eN : (Cs.flatten ++ (M' ++ (P.drop a).drop 20)).length = N := by
        have h1 := HC.out.2.2.2.2
        rw [← HC.out.2.2.1] at h1
        rw [← h1]
        simp only [List.length_append, hlM, HC.out.2.1]
      rw [eN] at hp3
      have H := Lib.hid (And.intro hp1 (And.intro hp2 (And.intro hp3 (And.intro (keep_on hK.out hp4) hlM))))
      clear hp1 hp2 hp3 hp4 hlM eN
      go_wp2_with (fail)
      go_roundg (N - b)
      case measure => have := hab.out; have := HC.out.2.2.2.1; omega
      case rel =>
        obtain ⟨hp1, hp2, hp3, hp4, hlM⟩ := H.out
        have e2 : (Cs ++ [M']).flatten ++ P.drop b = Cs.flatten ++ (M' ++ (P.drop a).drop 20) := by
          rw [flat_snoc, List.append_assoc, List.drop_drop, hab.out.2.1]
        refine ⟨b, b + 20, Cs ++ [M'], rfl, by go_num, ?_, hF.out.snoc hlM hp1, ?_, ?_, hp4⟩
        · show _ ∧ _ ∧ _
          have := hab.out; have := HC.out.2.2.2.1
          rw [flat_snoc, List.length_append, hlM]
          exact ⟨by omega, rfl, by omega⟩
        · show StS _ _ _
          rw [e2]
          refine sts_mid hp2 ?_
          rw [HC.out.2.2.1]; exact hst.out
        · show Sl _ _ _ _ _
          rw [e2]; exact hp3
    · have hltI : ¬ (b : Int) ≤ (N : Int) := by omega
      have h1 := insSortI_any fs Af cf Bf g c a N Cs.flatten (P.drop a) [] wr (by rw [List.append_nil, hNa]; exact hRow.out) (by rw [List.append_nil]; exact hPl) (by rw [List.append_nil, hNa]; omega) hab.out.2.2 (by have := hab.out; have := HS.out.2.2.1; rw [List.length_drop]; omega)
      rw [List.append_nil, hNa] at h1
      have HC := Lib.hid (And.intro h1 (And.intro hlt hNa))
      clear h1 hPl hlt hNa
      go_wp2_with (fail)
      refine HC.out.1.mono ?_
      rintro e w1 ⟨rfl, M', hp1, hp2, hp3, hp4⟩
      have hlM := hp2.len
      have eN : (Cs.flatten ++ (M' ++ [])).length = N := by
        have h1 := HC.out.2.2
        rw [← h1, List.append_nil]
        simp only [List.length_append, hlM]
      rw [eN] at hp3
      rw [List.append_nil] at hp3
      have hstM : StS (keyF fs) (Cs.flatten ++ M') P := by
        have h2 := sts_mid (X := Cs.flatten) (Y := []) (P := P) hp2 (by rw [List.append_nil]; exact hst.out)
        rwa [List.append_nil] at h2
      have hlM20 : M'.length ≤ 20 := by rw [hlM, List.length_drop]; have := hab.out; have := HC.out.2.1; have := HS.out.2.2.1; omega
      have H := Lib.hid (And.intro hp1 (And.intro hstM (And.intro hp3 (And.intro (keep_on hK.out hp4) (And.intro hlM20 hF.out)))))
      clear hp1 hp2 hp3 hp4 hlM eN hstM hlM20 hK hRow hst hab hF
      go_wp2_with (fail)
      go_loopg [6, 7, 8, 9] (N - 20) (fun gg v6 _ _ _ wr => ∃ (bs : Nat) (Fs : List (List Nat)) (L : List Nat), v6 = .int .i64 (bs : Int) ∧ Aside (gg = N - bs ∧ 1 ≤ bs ∧ bs ≤ 2000) ∧ Aside (Full fs bs Fs ∧ L.length ≤ bs ∧ SrtK (keyF fs) cmpS L) ∧ Aside (StS (keyF fs) (Fs.flatten ++ L) P) ∧ Aside (Sl wr 1 (.slice (some ⟨g, 0, none⟩) N c) N (ixC (Fs.flatten ++ L))) ∧ Aside (KeepK (fun i => i < w.heap.size ∧ i ≠ g) w wr))
      case atStart => exact ⟨20, Cs, M', rfl, (by show _ ∧ _ ∧ _; exact ⟨rfl, by omega, by omega⟩), ⟨H.out.2.2.2.2.2, H.out.2.2.2.2.1, H.out.1⟩, H.out.2.1, H.out.2.2.1, H.out.2.2.2.1⟩
      case round =>
        obtain ⟨bs, Fs, L, rfl, hbs, hF, hst, hRow, hK⟩ := hrel
        have hbI : (bs : Int) ≤ 2000 := by have := hbs.out; omega
        have hlen : (Fs.flatten ++ L).length = N := by rw [hst.out.len]; exact HS.out.2.2.1
        by_cases hlt : bs < N
        · have hltI : (bs : Int) < (N : Int) := by omega
          have HL := Lib.hid (And.intro hlen hlt)
          clear hlen hlt
          go_wp2_with (fail)
          go_loopg [7, 8] (N - 0) (fun gg v7 v8 wr => ∃ (a b : Nat) (Ds Es : List (List Nat)) (L : List Nat), v7 = .int .i64 (a : Int) ∧ v8 = .int .i64 (b : Int) ∧ Aside (gg = N - a ∧ b = a + 2 * bs ∧ a = Ds.flatten.length ∧ a ≤ N) ∧ Aside (Full fs (2 * bs) Ds ∧ Full fs bs Es ∧ L.length ≤ bs ∧ SrtK (keyF fs) cmpS L) ∧ Aside (StS (keyF fs) (Ds.flatten ++ (Es.flatten ++ L)) P) ∧ Aside (Sl wr 1 (.slice (some ⟨g, 0, none⟩) N c) N (ixC (Ds.flatten ++ (Es.flatten ++ L)))) ∧ Aside (KeepK (fun i => i < w.heap.size ∧ i ≠ g) w wr))
          case atStart => exact ⟨0, 2 * bs, [], Fs, L, rfl, by go_num, ⟨rfl, by omega, rfl, Nat.zero_le _⟩, ⟨fun C hC => absurd hC List.not_mem_nil, hF.out⟩, hst.out, hRow.out, hK.out⟩
          case round =>
            clear hF hst hRow hK
            obtain ⟨a, b, Ds, Es, L2, rfl, rfl, hab, hF, hst, hRow, hK⟩ := hrel
            have hPl : IxOk wr g Bf Af cf fs (Ds.flatten ++ (Es.flatten ++ L2)) := HS.out.2.1.sts hst.out hK.out
            have haI : (a : Int) ≤ 1000 := by have := hab.out; omega
            have hbI2 : (b : Int) ≤ 5000 := by have := hab.out; have := hbs.out; omega
            have hlen : (Ds.flatten ++ (Es.flatten ++ L2)).length = N := by rw [hst.out.len]; exact HS.out.2.2.1
            have hlen2 : a + (Es.flatten ++ L2).length = N := by rw [List.length_append, ← hab.out.2.2.1] at hlen; exact hlen
            by_cases hle : b ≤ N
            · have hleI : (b : Int) ≤ (N : Int) := by omega
              obtain ⟨A1, A2, Es', L', eA, l1, l2, s1, s2, hF', l3, s3⟩ := pair_next hF.out.2.1 hF.out.2.2.1 hF.out.2.2.2 hbs.out.2.1 (by have := hab.out; omega)
              rw [eA] at hlen hPl
              have hRow' := hRow.out
              rw [eA] at hRow'
              have hst' := hst.out
              rw [eA] at hst'
              have h1 := sym_go (fs := fs) (Af := Af) (cf := cf) (Bf := Bf) g c N a (a + bs) b Ds.flatten A1 A2 (Es'.flatten ++ L') wr (by have := HS.out.2.2.2; omega) hRow' (hPl.mem fun q hq => List.mem_append_right _ (List.mem_append_left _ hq)) hlen hab.out.2.2.1 (by omega) (by have := hab.out; omega) (by have := hbs.out; omega) (by have := hbs.out; omega) s1 s2
              rw [Int.natCast_add] at h1
              have HC := Lib.hid (And.intro h1 (And.intro l1 (And.intro l2 (And.intro hF' (And.intro l3 (And.intro s3 (And.intro hst' hle)))))))
              clear h1 hst' hRow' hPl hlen hlen2 eA l1 l2 s1 s2 hF' l3 s3 hle
              go_wp2_with (fail)
              refine HC.out.1.mono ?_
              rintro e w2 ⟨rfl, M2, hp1, hp2, hp3, hp4⟩
              have H2 := Lib.hid (And.intro hp1 (And.intro hp2 (And.intro hp3 (keep_on hK.out hp4))))
              clear hp1 hp2 hp3 hp4
              go_wp2_with (fail)
              go_roundg (N - b)
              case measure => have := hab.out; have := HC.out.2.2.2.2.2.2.2; have := hbs.out; omega
              case rel =>
                obtain ⟨hp1, hp2, hp3, hp4⟩ := H2.out
                obtain ⟨_, l1, l2, hF', l3, s3, hst', hle⟩ := HC.out
                have hlM : M2.length = 2 * bs := by rw [hp2.len, List.length_append]; omega
                have e2 : (Ds ++ [M2]).flatten ++ (Es'.flatten ++ L') = Ds.flatten ++ (M2 ++ (Es'.flatten ++ L')) := by rw [flat_snoc, List.append_assoc]
                refine ⟨b, b + 2 * bs, Ds ++ [M2], Es', L', rfl, by go_num, ?_, ⟨hF.out.1.snoc hlM hp1, hF', l3, s3⟩, ?_, ?_, hp4⟩
                · show _ ∧ _ ∧ _ ∧ _
                  have := hab.out
                  rw [flat_snoc, List.length_append, hlM]
                  exact ⟨rfl, rfl, by omega, hle⟩
                · show StS _ _ _
                  rw [e2]; exact sts_mid hp2 hst'
                · show Sl _ _ _ _ _
                  rw [e2]; exact hp3
            · have hleI : ¬ (b : Int) ≤ (N : Int) := by omega
              by_cases hlm : a + bs < N
              · have hlmI : (a : Int) + (bs : Int) < (N : Int) := by omega
                obtain ⟨F, rfl, l1, s1, l2⟩ := pair_last hF.out.2.1 hF.out.2.2.1 (by omega) (by have := hab.out; omega)
                have e1 : ([F] : List (List Nat)).flatten ++ L2 = (F ++ L2) ++ [] := by simp
                rw [e1] at hlen hPl hlen2
                have hRow' := hRow.out
                rw [e1] at hRow'
                have hst' := hst.out
                rw [e1] at hst'
                have h1 := sym_go (fs := fs) (Af := Af) (cf := cf) (Bf := Bf) g c N a (a + bs) N Ds.flatten F L2 [] wr (by have := HS.out.2.2.2; omega) hRow' (hPl.mem fun q hq => List.mem_append_right _ (List.mem_append_left _ hq)) hlen hab.out.2.2.1 (by omega) (by simp at hlen2; omega) (by have := hbs.out; omega) l2 s1 hF.out.2.2.2
                rw [Int.natCast_add] at h1
                have HC := Lib.hid (And.intro h1 (And.intro l1 hst'))
                clear h1 hst' hRow' hPl hlen hlen2 e1 l1 l2 s1 hle hlm
                go_wp2_with (fail)
                refine HC.out.1.mono ?_
                rintro e w2 ⟨rfl, M2, hp1, hp2, hp3, hp4⟩
                have H2 := Lib.hid (And.intro hp1 (And.intro hp2 (And.intro hp3 (keep_on hK.out hp4))))
                clear hp1 hp2 hp3 hp4
                go_wp2_with (fail)
                go_roundg (N - 2 * bs)
                case measure => have := hbs.out; have := HL.out; omega
                case rel =>
                  obtain ⟨hp1, hp2, hp3, hp4⟩ := H2.out
                  obtain ⟨_, l1, hst'⟩ := HC.out
                  refine ⟨2 * bs, Ds, M2, by congr 1; omega, (by show _ ∧ _ ∧ _; have := hbs.out; have := HL.out; have := HS.out.2.2.2; exact ⟨rfl, by omega, by omega⟩), ⟨hF.out.1, ?_, hp1⟩, ?_, ?_, hp4⟩
                  · rw [hp2.len, List.length_append]; have := hF.out.2.2.1; omega
                  · have h := sts_mid hp2 hst'
                    rw [List.append_nil] at h
                    exact h
                  · rw [List.append_nil] at hp3; exact hp3
              · have hlmI : ¬ (a : Int) + (bs : Int) < (N : Int) := by omega
                have hs := small_srt hF.out.2.1 hF.out.2.2.2 hbs.out.2.1 (by omega)
                have HC := Lib.hid (And.intro hs (show (Es.flatten ++ L2).length ≤ 2 * bs by omega))
                clear hs hPl hlen hlen2 hle hlm
                go_wp2_with (fail)
                go_roundg (N - 2 * bs)
                case measure => have := hbs.out; have := HL.out; omega
                case rel =>
                  refine ⟨2 * bs, Ds, Es.flatten ++ L2, by congr 1; omega, (by show _ ∧ _ ∧ _; have := hbs.out; have := HL.out; have := HS.out.2.2.2; exact ⟨rfl, by omega, by omega⟩), ⟨hF.out.1, HC.out.2, HC.out.1⟩, hst.out, hRow.out, hK.out⟩
        · have hltI : ¬ (bs : Int) < (N : Int) := by omega
          have hs := small_srt hF.out.1 hF.out.2.2 hbs.out.2.1 (by omega)
          have HC := Lib.hid hs
          clear hs hlen hlt
          go_wp2_with (fail)
          refine bodyPost_end (results_none rfl _ _ _) rfl ?_
          exact ⟨rfl, Fs.flatten ++ L, HC.out, hst.out, hRow.out, hK.out⟩
end Go.Proofs.YthnngndnpigjbaaGreat
