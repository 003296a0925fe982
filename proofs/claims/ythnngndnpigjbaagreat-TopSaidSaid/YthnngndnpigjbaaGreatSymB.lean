/- The walks of slices.swapRangeCmpFunc and slices.rotateCmpFunc at places. The walk of slices.rotateCmpFunc at places. The walk of slices.symMergeCmpFunc at places, where there is one in front. The walk of slices.symMergeCmpFunc at places, where there is one behind. -/
import Derived.Test.YthnngndnpigjbaaGreatStable
import Derived.Test.YthnngndnpigjbaaGreatOrd
namespace Go.Proofs.YthnngndnpigjbaaGreat
open Go.RowKit Go.Lib

/-- Two places of a row changed. -/
def swpPl (D : List Pl) (j p : Nat) (x s : Pl) : List Pl := (D.set j s).set p x
def swapWPl (w : World) (g j p : Nat) (x s : Pl) : World := (((w.setCell ⟨g, j * 2, none⟩ (.string s.nm)).setCell ⟨g, j * 2 + 1, none⟩ s.s).setCell ⟨g, p * 2, none⟩ (.string x.nm)).setCell ⟨g, p * 2 + 1, none⟩ x.s
theorem sl_swapPl {w : World} {g c N j p : Nat} {D : List Pl} (x s : Pl) (h : Sl w 2 (.slice (some ⟨g, 0, none⟩) N c) N (plC D)) (hj : j < N) (hp : p < N) :
    Sl (swapWPl w g j p x s) 2 (.slice (some ⟨g, 0, none⟩) N c) N (plC (swpPl D j p x s)) := by
  have h2 := (((h.set_ (g := g) rfl (j * 2) (.string s.nm) (by omega)).set_ (g := g) rfl (j * 2 + 1) s.s (by omega)).set_ (g := g) rfl (p * 2) (.string x.nm) (by omega)).set_ (g := g) rfl (p * 2 + 1) x.s (by omega)
  rw [← plC_set, ← plC_set] at h2
  exact h2
theorem keep_swapPl {w0 w : World} {g : Nat} (j p : Nat) (x s : Pl) (h : KeepK (fun i => i < w0.heap.size ∧ i ≠ g) w0 w) : KeepK (fun i => i < w0.heap.size ∧ i ≠ g) w0 (swapWPl w g j p x s) :=
  (((h.setCell (p := ⟨g, j * 2, none⟩) (fun _ hi => hi.2) _).setCell (p := ⟨g, j * 2 + 1, none⟩) (fun _ hi => hi.2) _).setCell (p := ⟨g, p * 2, none⟩) (fun _ hi => hi.2) _).setCell (p := ⟨g, p * 2 + 1, none⟩) (fun _ hi => hi.2) _
theorem swap_mid2Pl (P Q R : List Pl) (x s : Pl) {j p : Nat} (hj : j = P.length) (hp : p = P.length + 1 + Q.length) : swpPl (P ++ x :: (Q ++ s :: R)) j p x s = P ++ s :: (Q ++ x :: R) := by
  subst hj hp
  unfold swpPl
  rw [List.set_append_right _ _ (by omega), List.set_append_right _ _ (by omega)]
  simp only [Nat.sub_self, List.set_cons_zero]
  rw [show P.length + 1 + Q.length - P.length = Q.length + 1 by omega, List.set_cons_succ, List.set_append_right _ _ (by omega)]
  simp
theorem at_fstPl (P Q R : List Pl) (x s : Pl) : (P ++ x :: (Q ++ s :: R))[P.length]? = some x := by simp
theorem at_sndPl (P Q R : List Pl) (x s : Pl) : (P ++ x :: (Q ++ s :: R))[P.length + 1 + Q.length]? = some s := by
  rw [List.getElem?_append_right (by omega), show P.length + 1 + Q.length - P.length = Q.length + 1 by omega, List.getElem?_cons_succ, List.getElem?_append_right (by omega)]
  simp

set_option maxRecDepth 100000 in
set_option maxHeartbeats 4000000 in
theorem swapR_anyPl (g c a b n N : Nat) (X A M B Y : List Pl) (w : World) (hS : Sl w 2 (.slice (some ⟨g, 0, none⟩) N c) N (plC (X ++ (A ++ (M ++ (B ++ Y))))))
    (hN : (X ++ (A ++ (M ++ (B ++ Y)))).length = N) (hn : N ≤ 1000000) (hAB : A.length = B.length) (ha : a = X.length) (hb : b = X.length + A.length + M.length) (hnn : n = A.length) :
    Calls Tryz.prog 106 #[.slice (some ⟨g, 0, none⟩) N c, .int .i64 (a : Int), .int .i64 (b : Int), .int .i64 (n : Int), .func (.func 72) #[] #[]] w fun e w' => e = .returned (.tuple #[]) ∧ Sl w' 2 (.slice (some ⟨g, 0, none⟩) N c) N (plC (X ++ (B ++ (M ++ (A ++ Y))))) ∧ KeepK (fun i => i < w.heap.size ∧ i ≠ g) w w' := by
  have hN3 : N = X.length + (A.length + (M.length + (B.length + Y.length))) := by rw [← hN]; simp
  have hNI : (N : Int) ≤ 1000000 := by omega
  have haI : (a : Int) ≤ 1000000 := by omega
  have hbI : (b : Int) ≤ 1000000 := by omega
  have hnI : (n : Int) ≤ 1000000 := by omega
  have HS := Lib.hid hS
  have HAB := Lib.hid (And.intro ha (And.intro hb (And.intro hnn (And.intro hAB hN3))))
  clear hS hN hn hAB ha hb hnn hN3
  go_enter Tryz.func106, Tryz.ntmps106
  go_wp2_with (fail)
  go_loopg [10] n (fun gg v10 wr => ∃ i : Nat, v10 = .int .i64 (i : Int) ∧ Aside (gg + i = n) ∧ Aside (Sl wr 2 (.slice (some ⟨g, 0, none⟩) N c) N (plC (X ++ ((B.take i ++ A.drop i) ++ (M ++ ((A.take i ++ B.drop i) ++ Y)))))) ∧ Aside (KeepK (fun i => i < w.heap.size ∧ i ≠ g) w wr))
  case atStart => exact ⟨0, rfl, rfl, HS.out, KeepK.refl _ _⟩
  case round =>
    obtain ⟨i, rfl, hg, hRow, hK⟩ := hrel
    by_cases hlt : i < n
    · obtain ⟨x, hx⟩ : ∃ x, A[i]? = some x := ⟨_, List.getElem?_eq_getElem (by have := HAB.out; omega)⟩
      obtain ⟨s, hs⟩ : ∃ s, B[i]? = some s := ⟨_, List.getElem?_eq_getElem (by have := HAB.out; omega)⟩
      obtain ⟨j, hj⟩ : ∃ j, a + i = j := ⟨_, rfl⟩
      obtain ⟨p, hp⟩ : ∃ p, b + i = p := ⟨_, rfl⟩
      have hltI : (i : Int) < (n : Int) := by omega
      obtain ⟨q1, q2⟩ := List.getElem?_eq_some_iff.1 hx
      obtain ⟨q3, q4⟩ := List.getElem?_eq_some_iff.1 hs
      have eD : X ++ ((B.take i ++ A.drop i) ++ (M ++ ((A.take i ++ B.drop i) ++ Y))) = (X ++ B.take i) ++ x :: ((A.drop (i + 1) ++ (M ++ A.take i)) ++ s :: (B.drop (i + 1) ++ Y)) := by
        rw [List.drop_eq_getElem_cons q1, List.drop_eq_getElem_cons q3, q2, q4]; simp
      have eE : X ++ ((B.take (i + 1) ++ A.drop (i + 1)) ++ (M ++ ((A.take (i + 1) ++ B.drop (i + 1)) ++ Y))) = (X ++ B.take i) ++ s :: ((A.drop (i + 1) ++ (M ++ A.take i)) ++ x :: (B.drop (i + 1) ++ Y)) := by
        rw [List.take_succ_eq_append_getElem q1, List.take_succ_eq_append_getElem q3, q2, q4]; simp
      have lj : j = (X ++ B.take i).length := by have := HAB.out; simp; omega
      have lp : p = (X ++ B.take i).length + 1 + (A.drop (i + 1) ++ (M ++ A.take i)).length := by have := HAB.out; simp; omega
      have hR2 := hRow.out
      rw [eD] at hR2
      have hjN : j < N := by have := HAB.out; omega
      have hpN : p < N := by have := HAB.out; omega
      have hatx := at_fstPl (X ++ B.take i) (A.drop (i + 1) ++ (M ++ A.take i)) (B.drop (i + 1) ++ Y) x s
      have hats := at_sndPl (X ++ B.take i) (A.drop (i + 1) ++ (M ++ A.take i)) (B.drop (i + 1) ++ Y) x s
      rw [← lj] at hatx
      rw [← lp] at hats
      have hSW := swap_mid2Pl (X ++ B.take i) (A.drop (i + 1) ++ (M ++ A.take i)) (B.drop (i + 1) ++ Y) x s lj lp
      have c0 : wr.cell? ⟨g, j * 2, none⟩ = some (.string x.nm) := hR2.cell rfl (plC_0 hatx)
      have c1 : wr.cell? ⟨g, j * 2 + 1, none⟩ = some (.slice x.A x.L.length x.c) := hR2.cell rfl (plC_1 hatx)
      have d0 : wr.cell? ⟨g, p * 2, none⟩ = some (.string s.nm) := hR2.cell rfl (plC_0 hats)
      have d1 : wr.cell? ⟨g, p * 2 + 1, none⟩ = some (.slice s.A s.L.length s.c) := hR2.cell rfl (plC_1 hats)
      have f0 := hR2.free (g := g) rfl (j := j * 2) (by omega)
      have f1 := hR2.free (g := g) rfl (j := j * 2 + 1) (by omega)
      have f2 := hR2.free (g := g) rfl (j := p * 2) (by omega)
      have f3 := hR2.free (g := g) rfl (j := p * 2 + 1) (by omega)
      have hjp : j < p := by omega
      have n1 : (⟨g, p * 2, none⟩ : Addr) ≠ ⟨g, j * 2, none⟩ := by intro h; injection h; omega
      have n2 : (⟨g, p * 2, none⟩ : Addr) ≠ ⟨g, j * 2 + 1, none⟩ := by intro h; injection h; omega
      have n3 : (⟨g, p * 2 + 1, none⟩ : Addr) ≠ ⟨g, j * 2, none⟩ := by intro h; injection h; omega
      have n4 : (⟨g, p * 2 + 1, none⟩ : Addr) ≠ ⟨g, j * 2 + 1, none⟩ := by intro h; injection h; omega
      have u0 : ((wr.setCell ⟨g, j * 2, none⟩ (.string s.nm)).setCell ⟨g, j * 2 + 1, none⟩ (.slice s.A s.L.length s.c)).cell? ⟨g, p * 2, none⟩ = some (.string s.nm) := by rw [World.cell?_setCell_other _ _ _ _ n2.symm, World.cell?_setCell_other _ _ _ _ n1.symm]; exact d0
      have u1 : ((wr.setCell ⟨g, j * 2, none⟩ (.string s.nm)).setCell ⟨g, j * 2 + 1, none⟩ (.slice s.A s.L.length s.c)).cell? ⟨g, p * 2 + 1, none⟩ = some (.slice s.A s.L.length s.c) := by rw [World.cell?_setCell_other _ _ _ _ n4.symm, World.cell?_setCell_other _ _ _ _ n3.symm]; exact d1
      have u2 : (((wr.setCell ⟨g, j * 2, none⟩ (.string s.nm)).setCell ⟨g, j * 2 + 1, none⟩ (.slice s.A s.L.length s.c)).setCell ⟨g, p * 2, none⟩ (.string x.nm)).cell? ⟨g, p * 2 + 1, none⟩ = some (.slice s.A s.L.length s.c) := by rw [World.cell?_setCell_other _ _ _ _ (by intro h; injection h; omega)]; exact u1
      have hw1 : IntKind.i64.wrap ((a : Int) + (i : Int)) = (j : Int) := by rw [IntKind.wrap_i64]; omega
      have hw2 : IntKind.i64.wrap ((b : Int) + (i : Int)) = (p : Int) := by rw [IntKind.wrap_i64]; omega
      have hjI : (j : Int) < (N : Int) := by omega
      have hpI : (p : Int) < (N : Int) := by omega
      have HJ := Lib.hid (And.intro hR2 (And.intro hSW (And.intro eE (And.intro hjN (And.intro hpN hlt)))))
      clear hatx hats hSW eD eE lj lp hx hs q2 q4 hR2 hjN hpN hj hp hjp hlt
      go_wp2_with (fail)
      go_region
      clear hw1 hw2 u0 u1 u2 n1 n2 n3 n4 c0 c1 d0 d1 f0 f1 f2 f3
      go_wp2_with (fail)
      obtain ⟨hR2, hSW, eE, hjN, hpN, hlt⟩ := HJ.out
      go_roundg (n - (i + 1))
      case measure => have := hg.out; omega
      case rel =>
        refine ⟨i + 1, by go_num, ?_, ?_, ?_⟩
        · show _ = _
          have := hg.out
          omega
        · show Sl _ _ _ _ _
          have h2 := sl_swapPl x s hR2 hjN hpN
          rw [hSW, ← eE] at h2
          exact h2.drew
        · exact (keep_swapPl j p x s hK.out).drew
    · have hltI : ¬ (i : Int) < (n : Int) := by omega
      have hin : i = n := by have := hg.out; omega
      have HI := Lib.hid hin
      clear hin hlt
      go_wp2_with (fail)
      refine bodyPost_end (results_none rfl _ _ _) rfl ?_
      have h1 := hRow.out
      rw [List.take_of_length_le (by have := HAB.out; have := HI.out; omega), List.take_of_length_le (by have := HAB.out; have := HI.out; omega), List.drop_eq_nil_of_le (by have := HAB.out; have := HI.out; omega), List.drop_eq_nil_of_le (by have := HAB.out; have := HI.out; omega), List.append_nil, List.append_nil] at h1
      exact ⟨rfl, h1, hK.out⟩
end Go.Proofs.YthnngndnpigjbaaGreat

namespace Go.Proofs.YthnngndnpigjbaaGreat
open Go.RowKit Go.Lib

set_option maxRecDepth 100000 in
set_option maxHeartbeats 4000000 in
theorem rotate_anyPl (g c a m b N : Nat) (X U V Y : List Pl) (w : World) (hS : Sl w 2 (.slice (some ⟨g, 0, none⟩) N c) N (plC (X ++ (U ++ (V ++ Y)))))
    (hN : (X ++ (U ++ (V ++ Y))).length = N) (hn : N ≤ 1000000) (ha : a = X.length) (hm : m = X.length + U.length) (hb : b = X.length + U.length + V.length) (hU : 1 ≤ U.length) (hV : 1 ≤ V.length) :
    Calls Tryz.prog 104 #[.slice (some ⟨g, 0, none⟩) N c, .int .i64 (a : Int), .int .i64 (m : Int), .int .i64 (b : Int), .func (.func 72) #[] #[]] w fun e w' => e = .returned (.tuple #[]) ∧ Sl w' 2 (.slice (some ⟨g, 0, none⟩) N c) N (plC (X ++ (V ++ (U ++ Y)))) ∧ KeepK (fun i => i < w.heap.size ∧ i ≠ g) w w' := by
  have hN3 : N = X.length + (U.length + (V.length + Y.length)) := by rw [← hN]; simp
  have hNI : (N : Int) ≤ 1000000 := by omega
  have haI : (a : Int) ≤ 1000000 := by omega
  have hmI : (m : Int) ≤ 1000000 := by omega
  have hbI : (b : Int) ≤ 1000000 := by omega
  have e1 : (m : Int) - (a : Int) = (U.length : Int) := by omega
  have e2 : (b : Int) - (m : Int) = (V.length : Int) := by omega
  have HS := Lib.hid hS
  have HAB := Lib.hid (And.intro hm (And.intro hU (And.intro hV (And.intro hN3 hn))))
  have HE := Lib.hid (And.intro e1 e2)
  clear hS hN hn ha hm hb hN3 hU hV e1 e2
  go_enter Tryz.func104, Tryz.ntmps104
  go_wp2_with (fail)
  go_loopg [10, 11] (U.length + V.length) (fun gg v10 v11 wr => ∃ (i j : Nat) (X1 U1 V1 Y1 : List Pl), v10 = .int .i64 (i : Int) ∧ v11 = .int .i64 (j : Int) ∧ Aside (i = U1.length ∧ j = V1.length ∧ 1 ≤ i ∧ 1 ≤ j ∧ m = X1.length + i ∧ gg = i + j) ∧ Aside (X1 ++ (V1 ++ (U1 ++ Y1)) = X ++ (V ++ (U ++ Y))) ∧ Aside (N = X1.length + (U1.length + (V1.length + Y1.length))) ∧ Aside (Sl wr 2 (.slice (some ⟨g, 0, none⟩) N c) N (plC (X1 ++ (U1 ++ (V1 ++ Y1))))) ∧ Aside (KeepK (fun i => i < w.heap.size ∧ i ≠ g) w wr))
  case atStart =>
    obtain ⟨h1, h2, h3, h4, h5⟩ := HAB.out
    exact ⟨U.length, V.length, X, U, V, Y, by first | rfl | (rw [HE.out.1]), by first | rfl | (rw [HE.out.2]), ⟨rfl, rfl, h2, h3, h1, rfl⟩, rfl, h4, HS.out, KeepK.refl _ _⟩
  case round =>
    obtain ⟨i, j, X1, U1, V1, Y1, rfl, rfl, hL, hT, hNN, hRow, hK⟩ := hrel
    clear HE
    obtain ⟨p, hp⟩ : ∃ p, X1.length = p := ⟨_, rfl⟩
    have hpm : (m : Int) - (i : Int) = (p : Int) := by have := hL.out; omega
    have hiI : (i : Int) ≤ 1000000 := by have := hL.out; have := hNN.out; have := HAB.out; omega
    have hjI : (j : Int) ≤ 1000000 := by have := hL.out; have := hNN.out; have := HAB.out; omega
    by_cases hij : i = j
    · have hne : ((i : Int) != (j : Int)) = false := by subst hij; simp
      have h1 := swapR_anyPl g c p m i N X1 U1 [] V1 Y1 wr (by simpa using hRow.out) (by have := hNN.out; simp; omega) HAB.out.2.2.2.2 (by have := hL.out; omega) hp.symm (by have := hL.out; simp; omega) (by have := hL.out; omega)
      rw [← hpm] at h1
      have HC := Lib.hid h1
      clear h1 hij hp hpm
      go_wp2_with (fail)
      with_reducible refine HC.out.mono ?_
      rintro e w1 ⟨rfl, h2, h3⟩
      have h4 : Sl w1 2 (.slice (some ⟨g, 0, none⟩) N c) N (plC (X ++ (V ++ (U ++ Y)))) := by
        rw [← hT.out]; simpa using h2
      have H := Lib.hid (And.intro h4 (hK.out.trans (h3.mono fun i hi => ⟨Nat.lt_of_lt_of_le hi.1 hK.out.size, hi.2⟩)))
      clear h2 h3 h4
      go_wp2_with (fail)
      refine bodyPost_end (results_none rfl _ _ _) rfl ?_
      exact ⟨rfl, H.out.1, H.out.2⟩
    · have hne : ((i : Int) != (j : Int)) = true := by simp; omega
      by_cases hgt : j < i
      · have hgtI : (j : Int) < (i : Int) := by omega
        have h1 := swapR_anyPl g c p m j N X1 (U1.take j) (U1.drop j) V1 Y1 wr (by rw [← List.append_assoc (U1.take j), List.take_append_drop]; exact hRow.out) (by have := hL.out; have := hNN.out; simp; omega) HAB.out.2.2.2.2 (by have := hL.out; simp; omega) hp.symm (by have := hL.out; simp; omega) (by have := hL.out; simp; omega)
        rw [← hpm] at h1
        have HC := Lib.hid h1
        have HG := Lib.hid hgt
        clear h1 hij hp hpm hgt
        go_wp2_with (fail)
        with_reducible refine HC.out.mono ?_
        rintro e w1 ⟨rfl, h2, h3⟩
        have H := Lib.hid (And.intro h2 (hK.out.trans (h3.mono fun i hi => ⟨Nat.lt_of_lt_of_le hi.1 hK.out.size, hi.2⟩)))
        clear h2 h3
        go_wp2_with (fail)
        go_roundg (i - j + j)
        case measure => have := hL.out; have := HG.out; omega
        case rel =>
          obtain ⟨l1, l2, l3, l4, l5, l6⟩ := hL.out
          have hg := HG.out
          refine ⟨i - j, j, X1 ++ V1, U1.drop j, U1.take j, Y1, ?_, rfl, ⟨?_, ?_, ?_, ?_, ?_, rfl⟩, ?_, ?_, ?_, H.out.2⟩
          · congr 1; omega
          · simp; omega
          · simp; omega
          · omega
          · omega
          · simp; omega
          · show _ = _
            rw [← hT.out]
            have e : X1 ++ V1 ++ (U1.take j ++ (U1.drop j ++ Y1)) = X1 ++ (V1 ++ ((U1.take j ++ U1.drop j) ++ Y1)) := by simp only [List.append_assoc]
            rw [e, List.take_append_drop]
          · show _ = _
            have := hNN.out
            simp; omega
          · show Sl _ _ _ _ _
            have h2 := H.out.1
            rw [show X1 ++ V1 ++ (U1.drop j ++ (U1.take j ++ Y1)) = X1 ++ (V1 ++ (U1.drop j ++ (U1.take j ++ Y1))) by simp]
            exact h2
      · have hgtI : ¬ (j : Int) < (i : Int) := by omega
        obtain ⟨q, hq⟩ : ∃ q, m + j - i = q := ⟨_, rfl⟩
        have hqm : (m : Int) + (j : Int) - (i : Int) = (q : Int) := by omega
        have h1 := swapR_anyPl g c p q i N X1 U1 (V1.take (j - i)) (V1.drop (j - i)) Y1 wr (by rw [← List.append_assoc (V1.take (j - i)), List.take_append_drop]; exact hRow.out) (by have := hL.out; have := hNN.out; simp; omega) HAB.out.2.2.2.2 (by have := hL.out; simp; omega) hp.symm (by have := hL.out; simp; omega) (by have := hL.out; omega)
        rw [← hpm, ← hqm] at h1
        have HC := Lib.hid h1
        have HG := Lib.hid (show i < j by omega)
        clear h1 hij hp hpm hgt hq hqm
        go_wp2_with (fail)
        with_reducible refine HC.out.mono ?_
        rintro e w1 ⟨rfl, h2, h3⟩
        have H := Lib.hid (And.intro h2 (hK.out.trans (h3.mono fun i hi => ⟨Nat.lt_of_lt_of_le hi.1 hK.out.size, hi.2⟩)))
        clear h2 h3
        go_wp2_with (fail)
        go_roundg (i + (j - i))
        case measure => have := hL.out; have := HG.out; omega
        case rel =>
          obtain ⟨l1, l2, l3, l4, l5, l6⟩ := hL.out
          have hg := HG.out
          refine ⟨i, j - i, X1, V1.drop (j - i), V1.take (j - i), U1 ++ Y1, rfl, ?_, ⟨?_, ?_, ?_, ?_, ?_, rfl⟩, ?_, ?_, ?_, H.out.2⟩
          · congr 1; omega
          · simp; omega
          · simp; omega
          · omega
          · omega
          · omega
          · show _ = _
            rw [← hT.out]
            have e : X1 ++ (V1.take (j - i) ++ (V1.drop (j - i) ++ (U1 ++ Y1))) = X1 ++ ((V1.take (j - i) ++ V1.drop (j - i)) ++ (U1 ++ Y1)) := by simp only [List.append_assoc]
            rw [e, List.take_append_drop]
          · show _ = _
            have := hNN.out
            simp; omega
          · exact H.out.1
end Go.Proofs.YthnngndnpigjbaaGreat

namespace Go.Proofs.YthnngndnpigjbaaGreat
open Go.RowKit Go.Lib

/-- What a row of places holds when two parts of it were merged. -/
def MgPostPl (g c N : Nat) (X M Y : List Pl) (w : World) (e : Ending) (w' : World) : Prop :=
  e = .returned (.tuple #[]) ∧ ∃ M', SrtK Pl.L cmpL M' ∧ StS Pl.L M' M ∧ Sl w' 2 (.slice (some ⟨g, 0, none⟩) N c) N (plC (X ++ (M' ++ Y))) ∧ KeepK (fun i => i < w.heap.size ∧ i ≠ g) w w'
theorem at_behindPl {α : Type} (X M Y : List α) {k : Nat} (h : k < M.length) : (X ++ (M ++ Y))[X.length + k]? = M[k]? := by
  rw [List.getElem?_append_right (by omega), Nat.add_sub_cancel_left, List.getElem?_append_left h]
theorem halfPl (n : Nat) : n / 2 * 2 ≤ n ∧ n < n / 2 * 2 + 2 := by omega

set_option maxRecDepth 100000 in
set_option maxHeartbeats 8000000 in
theorem sym_frontPl (g c a m b N : Nat) (X R Y : List Pl) (x : Pl) (w : World) (hS : Sl w 2 (.slice (some ⟨g, 0, none⟩) N c) N (plC (X ++ (x :: R ++ Y)))) (hP : PlOk w g (x :: R))
    (hN : (X ++ (x :: R ++ Y)).length = N) (hn : N ≤ 1000000) (ha : a = X.length) (hm : m = a + 1) (hb : b = m + R.length) (hR : SrtK Pl.L cmpL R) :
    Calls Tryz.prog 101 #[.slice (some ⟨g, 0, none⟩) N c, .int .i64 (a : Int), .int .i64 (m : Int), .int .i64 (b : Int), .func (.func 72) #[] #[]] w (MgPostPl g c N X (x :: R) Y w) := by
  have hN3 : N = X.length + (1 + R.length + Y.length) := by rw [← hN]; simp; omega
  have hNI : (N : Int) ≤ 1000000 := by omega
  have haI : (a : Int) ≤ 1000000 := by omega
  have hmI : (m : Int) ≤ 1000000 := by omega
  have hbI : (b : Int) ≤ 1000000 := by omega
  have ht0 : ((m : Int) - (a : Int) == 1) = true := by simp; omega
  have HS := Lib.hid (And.intro hS (And.intro hP hR))
  have HAB := Lib.hid (And.intro ha (And.intro hm (And.intro hb hN3)))
  clear hS hP hN hn ha hm hb hN3 hR
  go_enter Tryz.func101, Tryz.ntmps101
  go_wp2_with (fail)
  go_loopg [10, 11, 12] (b - m) (fun gg v10 v11 _ wr => ∃ i j : Nat, v10 = .int .i64 (i : Int) ∧ v11 = .int .i64 (j : Int) ∧ Aside (m ≤ i ∧ i ≤ j ∧ j ≤ b ∧ gg = j - i) ∧ Aside (i = m ∨ ∃ y, R[i - m - 1]? = some y ∧ cmpL y.L x.L < 0) ∧ Aside (j = b ∨ ∃ y, R[j - m]? = some y ∧ ¬ cmpL y.L x.L < 0) ∧ Aside (Below w.heap.size w wr))
  case atStart => exact ⟨m, b, rfl, rfl, ⟨Nat.le_refl _, by have := HAB.out; omega, Nat.le_refl _, rfl⟩, .inl rfl, .inl rfl, Below.refl _ _⟩
  case round =>
    obtain ⟨i, j, rfl, rfl, hij, hlo, hhi, hB⟩ := hrel
    have hiI : (i : Int) ≤ 1000000 := by have := hij.out; omega
    have hjI : (j : Int) ≤ 1000000 := by have := hij.out; omega
    by_cases hlt : i < j
    · have hltI : (i : Int) < (j : Int) := by omega
      obtain ⟨k, hk⟩ : ∃ k, (i + j) / 2 = k := ⟨_, rfl⟩
      have hh : ((i : Int) + (j : Int)) / 2 = (k : Int) := by omega
      have hk1 : i ≤ k := by omega
      have hk2 : k < j := by omega
      obtain ⟨y, hy⟩ : ∃ y, R[k - m]? = some y := ⟨_, List.getElem?_eq_getElem (by have := hij.out; have := HAB.out; omega)⟩
      have hRow : Sl wr 2 (.slice (some ⟨g, 0, none⟩) N c) N (plC (X ++ (x :: R ++ Y))) := HS.out.1.below hB.out HS.out.1.lt
      have hatx : (X ++ (x :: R ++ Y))[k]? = some y := by
        have h1 := at_behindPl X (x :: R) Y (k := k - m + 1) (by have := hij.out; have := HAB.out; simp; omega)
        rw [show X.length + (k - m + 1) = k by have := hij.out; have := HAB.out; omega, List.getElem?_cons_succ, hy] at h1
        exact h1
      have hats : (X ++ (x :: R ++ Y))[a]? = some x := by
        have h1 := at_behindPl X (x :: R) Y (k := 0) (by simp)
        rw [Nat.add_zero, ← HAB.out.1] at h1
        exact h1
      have hPl : PlOk wr g (x :: R) := HS.out.2.1.keep (KeepK.of_below hB.out fun i hi => hi.1)
      have hxm : y ∈ x :: R := List.mem_cons_of_mem _ (List.mem_of_getElem? hy)
      have hsm : x ∈ x :: R := by simp
      have hkN : (k : Int) < (N : Int) := by have := hij.out; have := HAB.out; omega
      have haN : (a : Int) < (N : Int) := by have := HAB.out; omega
      have hkI : (k : Int) ≤ 1000000 := by omega
      have HY := Lib.hid (And.intro hy (And.intro hk1 hk2))
      have c0 : wr.cell? ⟨g, k * 2, none⟩ = some (.string y.nm) := hRow.cell rfl (plC_0 hatx)
      have c1 : wr.cell? ⟨g, k * 2 + 1, none⟩ = some (.slice y.A y.L.length y.c) := hRow.cell rfl (plC_1 hatx)
      have d0 : wr.cell? ⟨g, a * 2, none⟩ = some (.string x.nm) := hRow.cell rfl (plC_0 hats)
      have d1 : wr.cell? ⟨g, a * 2 + 1, none⟩ = some (.slice x.A x.L.length x.c) := hRow.cell rfl (plC_1 hats)

      have hgl : g < wr.heap.size := hRow.lt g rfl
      have hcall : ∀ W, Below wr.heap.size wr W → Calls Tryz.prog 72 #[.agg #[.string y.nm, .slice y.A y.L.length y.c], .agg #[.string x.nm, .slice x.A x.L.length x.c]] W fun e w' => e = .returned (.int .i64 (cmpL y.L x.L)) ∧ Below W.heap.size W w' := fun W hW =>
        cmpPl_any y x W g (hPl.keep (KeepK.of_below hW fun i hi => hi.1)) hxm hsm
      have HCL := Lib.hid hcall
      have hrefl : Below wr.heap.size wr wr := Below.refl _ _
      obtain ⟨z, hz⟩ : ∃ z, cmpL y.L x.L = z := ⟨_, rfl⟩
      rw [hz] at HCL
      have HZ := Lib.hid hz
      clear hz hatx hats hPl hxm hsm hcall hRow hk hk1 hk2 hlt hy
      go_wp2_with (fail)

      try clear hh
      go_region_held3 (fun w' => w'.cell? ⟨g, k * 2, none⟩ = some (.string y.nm) ∧ w'.cell? ⟨g, k * 2 + 1, none⟩ = some (.slice y.A y.L.length y.c) ∧ w'.cell? ⟨g, a * 2, none⟩ = some (.string x.nm) ∧ w'.cell? ⟨g, a * 2 + 1, none⟩ = some (.slice x.A x.L.length x.c) ∧ wr.heap.size ≤ w'.heap.size ∧ Below wr.heap.size wr w')
        (first | assumption | exact ⟨c0, c1, d0, d1, Nat.le_refl _, hrefl⟩ | exact k4D (by assumption) | exact k4D ⟨c0, c1, d0, d1, Nat.le_refl _, hrefl⟩ | exact k4C hgl (by assumption) hb | exact k4C hgl (k4D (by assumption)) hb | exact k4C hgl (k4D ⟨c0, c1, d0, d1, Nat.le_refl _, hrefl⟩) hb | exact k4C hgl ⟨c0, c1, d0, d1, Nat.le_refl _, hrefl⟩ hb)
        (first
          | (go_at_call 72; refine (HCL.out _ (l6 (by assumption))).mono ?_; rintro e w' ⟨rfl, hb⟩; have hbs := hb.size))
      have hcc : w'.cell? ⟨g, k * 2, none⟩ = some (.string y.nm) ∧ w'.cell? ⟨g, k * 2 + 1, none⟩ = some (.slice y.A y.L.length y.c) ∧ w'.cell? ⟨g, a * 2, none⟩ = some (.string x.nm) ∧ w'.cell? ⟨g, a * 2 + 1, none⟩ = some (.slice x.A x.L.length x.c) ∧ wr.heap.size ≤ w'.heap.size ∧ Below wr.heap.size wr w' := by assumption
      obtain ⟨c0', c1', d0', d1', hsz', hbf0⟩ := hcc
      have HBF := Lib.hid hbf0
      clear hbf0 c0 c1 d0 d1 hrefl c0' c1' d0' d1'
      by_cases hz0 : z < 0
      · go_wp2_with (fail)
        go_roundg (j - (k + 1))
        case measure => have := hij.out; have := HY.out; omega
        case rel =>
          obtain ⟨h1, h2, h3, h4⟩ := hij.out
          obtain ⟨q1, q2, q3⟩ := HY.out
          refine ⟨k + 1, j, by go_num, rfl, ⟨by omega, by omega, h3, rfl⟩, .inr ⟨y, ?_, by rw [HZ.out]; exact hz0⟩, hhi, hB.out.trans (HBF.out.mono hB.out.size)⟩
          rw [show k + 1 - m - 1 = k - m by omega]; exact q1
      · go_wp2_with (fail)
        go_roundg (k - i)
        case measure => have := hij.out; have := HY.out; omega
        case rel =>
          obtain ⟨h1, h2, h3, h4⟩ := hij.out
          obtain ⟨q1, q2, q3⟩ := HY.out
          exact ⟨i, k, rfl, rfl, ⟨by omega, by omega, by omega, rfl⟩, hlo, .inr ⟨y, q1, by rw [HZ.out]; exact hz0⟩, hB.out.trans (HBF.out.mono hB.out.size)⟩
    · have hltI : ¬ (i : Int) < (j : Int) := by omega
      obtain rfl : i = j := by have := hij.out; omega
      obtain ⟨t, ht⟩ : ∃ t, i - m = t := ⟨_, rfl⟩
      have hfin := ins_front cmpL_tot (key := Pl.L) HS.out.2.2 (x := x) (j := t)
        (by rcases hlo.out with h | ⟨y, h1, h2⟩
            · left; omega
            · right; exact ⟨y, by rw [← ht]; exact h1, h2⟩)
        (by rcases hhi.out with h | ⟨y, h1, h2⟩
            · left; have := HAB.out; omega
            · right; exact ⟨y, by rw [← ht]; exact h1, h2⟩)
      have hti : i = a + 1 + t ∧ t ≤ R.length := by have := hij.out; have := HAB.out; omega
      have HF := Lib.hid (And.intro hfin hti)
      have HS2 := Lib.hid (HS.out.1.below hB.out HS.out.1.lt)
      clear hfin ht hlo hhi hti hlt
      go_wp2_with (fail)
      go_loopg [13] t (fun gg v13 wr => ∃ u k : Nat, v13 = .int .i64 (k : Int) ∧ Aside (k = a + u) ∧ Aside (gg + u = t) ∧ Aside (Sl wr 2 (.slice (some ⟨g, 0, none⟩) N c) N (plC (X ++ ((R.take u ++ x :: R.drop u) ++ Y)))) ∧ Aside (KeepK (fun i => i < w.heap.size ∧ i ≠ g) w wr))
      case atStart => exact ⟨0, a, rfl, rfl, rfl, HS2.out, KeepK.of_below hB.out fun i hi => hi.1⟩
      case round =>
        rename_i wq _ _ _
        obtain ⟨u, k, rfl, hku, hgu, hRow0, hK⟩ := hrel
        have hkI : (k : Int) ≤ 1000000 := by have := hku.out; have := hgu.out; have := HF.out.2; omega
        by_cases hlt : u < t
        · obtain ⟨s, hs⟩ : ∃ s, R[u]? = some s := ⟨_, List.getElem?_eq_getElem (by have := HF.out.2; omega)⟩
          have hlt2 : (k : Int) < (i : Int) - 1 := by have := hku.out; have := HF.out.2; omega
          obtain ⟨q, hq⟩ : ∃ q, k + 1 = q := ⟨_, rfl⟩
          obtain ⟨h1, h2⟩ := List.getElem?_eq_some_iff.1 hs
          have eD : X ++ ((R.take u ++ x :: R.drop u) ++ Y) = (X ++ R.take u) ++ x :: ([] ++ s :: (R.drop (u + 1) ++ Y)) := by rw [List.drop_eq_getElem_cons h1, h2]; simp
          have eE : X ++ ((R.take (u + 1) ++ x :: R.drop (u + 1)) ++ Y) = (X ++ R.take u) ++ s :: ([] ++ x :: (R.drop (u + 1) ++ Y)) := by rw [List.take_succ_eq_append_getElem h1, h2]; simp
          have hRow := hRow0.out
          rw [eD] at hRow
          have lk : k = (X ++ R.take u).length := by have := hku.out; have := HAB.out; simp; omega
          have lq : q = (X ++ R.take u).length + 1 + ([] : List Pl).length := by rw [← lk, ← hq]; rfl
          have hkN : k < N := by have := hku.out; have := HAB.out; omega
          have hqN : q < N := by have := hku.out; have := HAB.out; omega
          have hatx := at_fstPl (X ++ R.take u) [] (R.drop (u + 1) ++ Y) x s
          have hats := at_sndPl (X ++ R.take u) [] (R.drop (u + 1) ++ Y) x s
          rw [← lk] at hatx
          rw [← lq] at hats
          have hSW := swap_mid2Pl (X ++ R.take u) [] (R.drop (u + 1) ++ Y) x s lk lq
          have hkNI : (k : Int) < (N : Int) := by omega
          have hqNI : (q : Int) < (N : Int) := by omega
          have hw1 : IntKind.i64.wrap ((k : Int) + 1) = (q : Int) := by rw [IntKind.wrap_i64]; omega
          have HJ := Lib.hid (And.intro hSW (And.intro eE (And.intro hkN (And.intro hqN (And.intro hlt hq)))))
          have c0 : wr.cell? ⟨g, k * 2, none⟩ = some (.string x.nm) := hRow.cell rfl (plC_0 hatx)
          have c1 : wr.cell? ⟨g, k * 2 + 1, none⟩ = some (.slice x.A x.L.length x.c) := hRow.cell rfl (plC_1 hatx)
          have d0 : wr.cell? ⟨g, q * 2, none⟩ = some (.string s.nm) := hRow.cell rfl (plC_0 hats)
          have d1 : wr.cell? ⟨g, q * 2 + 1, none⟩ = some (.slice s.A s.L.length s.c) := hRow.cell rfl (plC_1 hats)

          have f0 := hRow.free (g := g) rfl (j := k * 2) (by omega)
          have f1 := hRow.free (g := g) rfl (j := k * 2 + 1) (by omega)
          have f2 := hRow.free (g := g) rfl (j := q * 2) (by omega)
          have f3 := hRow.free (g := g) rfl (j := q * 2 + 1) (by omega)
          have n1 : (⟨g, q * 2, none⟩ : Addr) ≠ ⟨g, k * 2, none⟩ := by intro h; injection h; omega
          have n2 : (⟨g, q * 2, none⟩ : Addr) ≠ ⟨g, k * 2 + 1, none⟩ := by intro h; injection h; omega
          have n3 : (⟨g, q * 2 + 1, none⟩ : Addr) ≠ ⟨g, k * 2, none⟩ := by intro h; injection h; omega
          have n4 : (⟨g, q * 2 + 1, none⟩ : Addr) ≠ ⟨g, k * 2 + 1, none⟩ := by intro h; injection h; omega
          have u0 : ((wr.setCell ⟨g, k * 2, none⟩ (.string s.nm)).setCell ⟨g, k * 2 + 1, none⟩ (.slice s.A s.L.length s.c)).cell? ⟨g, q * 2, none⟩ = some (.string s.nm) := by rw [World.cell?_setCell_other _ _ _ _ n2.symm, World.cell?_setCell_other _ _ _ _ n1.symm]; exact d0
          have u1 : ((wr.setCell ⟨g, k * 2, none⟩ (.string s.nm)).setCell ⟨g, k * 2 + 1, none⟩ (.slice s.A s.L.length s.c)).cell? ⟨g, q * 2 + 1, none⟩ = some (.slice s.A s.L.length s.c) := by rw [World.cell?_setCell_other _ _ _ _ n4.symm, World.cell?_setCell_other _ _ _ _ n3.symm]; exact d1
          have u2 : (((wr.setCell ⟨g, k * 2, none⟩ (.string s.nm)).setCell ⟨g, k * 2 + 1, none⟩ (.slice s.A s.L.length s.c)).setCell ⟨g, q * 2, none⟩ (.string x.nm)).cell? ⟨g, q * 2 + 1, none⟩ = some (.slice s.A s.L.length s.c) := by rw [World.cell?_setCell_other _ _ _ _ (by intro h; injection h; omega)]; exact u1
          have HRW := Lib.hid hRow
          clear hatx hats hRow  hSW eE eD hkN hqN hq hlt lk lq hs h2
          go_wp2_with (fail)
          go_region
          clear u0 u1 u2 n1 n2 n3 n4 c0 c1 d0 d1 f0 f1 f2 f3
          go_wp2_with (fail)
          obtain ⟨hSW, eE, hkN, hqN, hlt, hq⟩ := HJ.out
          clear hw1
          go_roundg (t - (u + 1))
          case measure => have := hgu.out; omega
          case rel =>
            refine ⟨u + 1, k + 1, by go_num, (by show _ = _; have := hku.out; omega), (by show _ = _; have := hgu.out; omega), ?_, (keep_swapPl k q x s hK.out).drew⟩
            show Sl _ _ _ _ _
            have h2 := sl_swapPl x s HRW.out hkN hqN
            rw [hSW, ← eE] at h2
            exact h2.drew
        · have hlt2 : ¬ (k : Int) < (i : Int) - 1 := by have := hku.out; have := HF.out.2; omega
          have hut : u = t := by have := hgu.out; omega
          have HU := Lib.hid hut
          clear hut hlt
          go_wp2_with (fail)
          refine bodyPost_end (results_none rfl _ _ _) rfl ?_
          refine ⟨rfl, R.take t ++ x :: R.drop t, HF.out.1.1, HF.out.1.2, ?_, hK.out⟩
          have h1 := hRow0.out
          rw [HU.out] at h1
          exact h1
end Go.Proofs.YthnngndnpigjbaaGreat

namespace Go.Proofs.YthnngndnpigjbaaGreat
open Go.RowKit Go.Lib

theorem swap_mid3Pl (P Q R : List Pl) (y s : Pl) {j p : Nat} (hp : p = P.length) (hj : j = P.length + 1 + Q.length) : swpPl (P ++ s :: (Q ++ y :: R)) j p y s = P ++ y :: (Q ++ s :: R) := by
  subst hj hp
  unfold swpPl
  rw [List.set_append_right _ _ (by omega), List.set_append_right _ _ (by omega)]
  rw [show P.length + 1 + Q.length - P.length = Q.length + 1 by omega, List.set_cons_succ, List.set_append_right _ _ (by omega)]
  simp

set_option maxRecDepth 100000 in
set_option maxHeartbeats 8000000 in
theorem sym_backPl (g c a m b N : Nat) (X L Y : List Pl) (y : Pl) (w : World) (hS : Sl w 2 (.slice (some ⟨g, 0, none⟩) N c) N (plC (X ++ ((L ++ [y]) ++ Y)))) (hP : PlOk w g (L ++ [y]))
    (hN : (X ++ ((L ++ [y]) ++ Y)).length = N) (hn : N ≤ 1000000) (ha : a = X.length) (hm : m = a + L.length) (hb : b = m + 1) (hL2 : 2 ≤ L.length) (hL : SrtK Pl.L cmpL L) :
    Calls Tryz.prog 101 #[.slice (some ⟨g, 0, none⟩) N c, .int .i64 (a : Int), .int .i64 (m : Int), .int .i64 (b : Int), .func (.func 72) #[] #[]] w (MgPostPl g c N X (L ++ [y]) Y w) := by
  have hN3 : N = X.length + (L.length + 1 + Y.length) := by rw [← hN]; simp; omega
  have hNI : (N : Int) ≤ 1000000 := by omega
  have haI : (a : Int) ≤ 1000000 := by omega
  have hmI : (m : Int) ≤ 1000000 := by omega
  have hbI : (b : Int) ≤ 1000000 := by omega
  have ht0 : ((m : Int) - (a : Int) == 1) = false := by simp; omega
  have ht1 : ((b : Int) - (m : Int) == 1) = true := by simp; omega
  have HS := Lib.hid (And.intro hS (And.intro hP hL))
  have HAB := Lib.hid (And.intro ha (And.intro hm (And.intro hb hN3)))
  clear hS hP hN hn ha hm hb hN3 hL hL2
  go_enter Tryz.func101, Tryz.ntmps101
  go_wp2_with (fail)
  go_loopg [14, 15, 16] (m - a) (fun gg v14 v15 _ wr => ∃ i j : Nat, v14 = .int .i64 (i : Int) ∧ v15 = .int .i64 (j : Int) ∧ Aside (a ≤ i ∧ i ≤ j ∧ j ≤ m ∧ gg = j - i) ∧ Aside (i = a ∨ ∃ x, L[i - a - 1]? = some x ∧ ¬ cmpL y.L x.L < 0) ∧ Aside (j = m ∨ ∃ x, L[j - a]? = some x ∧ cmpL y.L x.L < 0) ∧ Aside (Below w.heap.size w wr))
  case atStart => exact ⟨a, m, rfl, rfl, ⟨Nat.le_refl _, by have := HAB.out; omega, Nat.le_refl _, rfl⟩, .inl rfl, .inl rfl, Below.refl _ _⟩
  case round =>
    obtain ⟨i, j, rfl, rfl, hij, hlo, hhi, hB⟩ := hrel
    have hiI : (i : Int) ≤ 1000000 := by have := hij.out; omega
    have hjI : (j : Int) ≤ 1000000 := by have := hij.out; omega
    by_cases hlt : i < j
    · have hltI : (i : Int) < (j : Int) := by omega
      obtain ⟨k, hk⟩ : ∃ k, (i + j) / 2 = k := ⟨_, rfl⟩
      have hh : ((i : Int) + (j : Int)) / 2 = (k : Int) := by omega
      have hk1 : i ≤ k := by omega
      have hk2 : k < j := by omega
      obtain ⟨x, hx⟩ : ∃ x, L[k - a]? = some x := ⟨_, List.getElem?_eq_getElem (by have := hij.out; have := HAB.out; omega)⟩
      have hRow : Sl wr 2 (.slice (some ⟨g, 0, none⟩) N c) N (plC (X ++ ((L ++ [y]) ++ Y))) := HS.out.1.below hB.out HS.out.1.lt
      have hatx : (X ++ ((L ++ [y]) ++ Y))[m]? = some y := by
        have h1 := at_behindPl X (L ++ [y]) Y (k := L.length) (by simp)
        rw [show X.length + L.length = m by have := HAB.out; omega] at h1
        rw [h1]; simp
      have hats : (X ++ ((L ++ [y]) ++ Y))[k]? = some x := by
        have h1 := at_behindPl X (L ++ [y]) Y (k := k - a) (by have := hij.out; have := HAB.out; simp; omega)
        rw [show X.length + (k - a) = k by have := hij.out; have := HAB.out; omega, List.getElem?_append_left (l₁ := L) (l₂ := [y]) (by have := hij.out; have := HAB.out; omega), hx] at h1
        exact h1
      have hPl : PlOk wr g (L ++ [y]) := HS.out.2.1.keep (KeepK.of_below hB.out fun i hi => hi.1)
      have hxm : y ∈ L ++ [y] := by simp
      have hsm : x ∈ L ++ [y] := List.mem_append_left _ (List.mem_of_getElem? hx)
      have hkN : (k : Int) < (N : Int) := by have := hij.out; have := HAB.out; omega
      have hmN : (m : Int) < (N : Int) := by have := HAB.out; omega
      have hkI : (k : Int) ≤ 1000000 := by omega
      have HY := Lib.hid (And.intro hx (And.intro hk1 hk2))
      have c0 : wr.cell? ⟨g, m * 2, none⟩ = some (.string y.nm) := hRow.cell rfl (plC_0 hatx)
      have c1 : wr.cell? ⟨g, m * 2 + 1, none⟩ = some (.slice y.A y.L.length y.c) := hRow.cell rfl (plC_1 hatx)
      have d0 : wr.cell? ⟨g, k * 2, none⟩ = some (.string x.nm) := hRow.cell rfl (plC_0 hats)
      have d1 : wr.cell? ⟨g, k * 2 + 1, none⟩ = some (.slice x.A x.L.length x.c) := hRow.cell rfl (plC_1 hats)

      have hgl : g < wr.heap.size := hRow.lt g rfl
      have hcall : ∀ W, Below wr.heap.size wr W → Calls Tryz.prog 72 #[.agg #[.string y.nm, .slice y.A y.L.length y.c], .agg #[.string x.nm, .slice x.A x.L.length x.c]] W fun e w' => e = .returned (.int .i64 (cmpL y.L x.L)) ∧ Below W.heap.size W w' := fun W hW =>
        cmpPl_any y x W g (hPl.keep (KeepK.of_below hW fun i hi => hi.1)) hxm hsm
      have HCL := Lib.hid hcall
      have hrefl : Below wr.heap.size wr wr := Below.refl _ _
      obtain ⟨z, hz⟩ : ∃ z, cmpL y.L x.L = z := ⟨_, rfl⟩
      rw [hz] at HCL
      have HZ := Lib.hid hz
      clear hz hatx hats hPl hxm hsm hcall hRow hk hk1 hk2 hlt hx
      by_cases hz0 : z < 0
      all_goals
        first | have hze : decide (z < 0) = true := decide_eq_true hz0 | have hze : decide (z < 0) = false := decide_eq_false hz0
        go_wp2_with (fail)

        try clear hh
        go_region_held3 (fun w' => w'.cell? ⟨g, m * 2, none⟩ = some (.string y.nm) ∧ w'.cell? ⟨g, m * 2 + 1, none⟩ = some (.slice y.A y.L.length y.c) ∧ w'.cell? ⟨g, k * 2, none⟩ = some (.string x.nm) ∧ w'.cell? ⟨g, k * 2 + 1, none⟩ = some (.slice x.A x.L.length x.c) ∧ wr.heap.size ≤ w'.heap.size ∧ Below wr.heap.size wr w')
          (first | assumption | exact ⟨c0, c1, d0, d1, Nat.le_refl _, hrefl⟩ | exact k4D (by assumption) | exact k4D ⟨c0, c1, d0, d1, Nat.le_refl _, hrefl⟩ | exact k4C hgl (by assumption) hb | exact k4C hgl (k4D (by assumption)) hb | exact k4C hgl (k4D ⟨c0, c1, d0, d1, Nat.le_refl _, hrefl⟩) hb | exact k4C hgl ⟨c0, c1, d0, d1, Nat.le_refl _, hrefl⟩ hb)
          (first
            | (go_at_call 72; refine (HCL.out _ (l6 (by assumption))).mono ?_; rintro e w' ⟨rfl, hb⟩; have hbs := hb.size))
        have hcc : w'.cell? ⟨g, m * 2, none⟩ = some (.string y.nm) ∧ w'.cell? ⟨g, m * 2 + 1, none⟩ = some (.slice y.A y.L.length y.c) ∧ w'.cell? ⟨g, k * 2, none⟩ = some (.string x.nm) ∧ w'.cell? ⟨g, k * 2 + 1, none⟩ = some (.slice x.A x.L.length x.c) ∧ wr.heap.size ≤ w'.heap.size ∧ Below wr.heap.size wr w' := by assumption
        obtain ⟨c0', c1', d0', d1', hsz', hbf0⟩ := hcc
        have HBF := Lib.hid hbf0
        clear hbf0 c0 c1 d0 d1 hrefl c0' c1' d0' d1'
      · try go_wp2_with (fail)
        go_roundg (k - i)
        case measure => have := hij.out; have := HY.out; omega
        case rel =>
          obtain ⟨h1, h2, h3, h4⟩ := hij.out
          obtain ⟨q1, q2, q3⟩ := HY.out
          exact ⟨i, k, rfl, rfl, ⟨by omega, by omega, by omega, rfl⟩, hlo, .inr ⟨x, q1, by rw [HZ.out]; exact hz0⟩, hB.out.trans (HBF.out.mono hB.out.size)⟩
      · try go_wp2_with (fail)
        go_roundg (j - (k + 1))
        case measure => have := hij.out; have := HY.out; omega
        case rel =>
          obtain ⟨h1, h2, h3, h4⟩ := hij.out
          obtain ⟨q1, q2, q3⟩ := HY.out
          refine ⟨k + 1, j, by go_num, rfl, ⟨by omega, by omega, h3, rfl⟩, .inr ⟨x, ?_, by rw [HZ.out]; exact hz0⟩, hhi, hB.out.trans (HBF.out.mono hB.out.size)⟩
          rw [show k + 1 - a - 1 = k - a by omega]; exact q1
    · have hltI : ¬ (i : Int) < (j : Int) := by omega
      obtain rfl : i = j := by have := hij.out; omega
      obtain ⟨t, ht⟩ : ∃ t, i - a = t := ⟨_, rfl⟩
      have hfin := ins_back cmpL_tot (key := Pl.L) HS.out.2.2 (y := y) (i := t)
        (by rcases hlo.out with h | ⟨x, h1, h2⟩
            · left; omega
            · right; exact ⟨x, by rw [← ht]; exact h1, h2⟩)
        (by rcases hhi.out with h | ⟨x, h1, h2⟩
            · left; have := HAB.out; omega
            · right; exact ⟨x, by rw [← ht]; exact h1, h2⟩)
      have hti : i = a + t ∧ t ≤ L.length := by have := hij.out; have := HAB.out; omega
      have HF := Lib.hid (And.intro hfin hti)
      have HS2 := Lib.hid (HS.out.1.below hB.out HS.out.1.lt)
      clear hfin ht hlo hhi hti hlt
      go_wp2_with (fail)
      go_loopg [17] (L.length - t) (fun gg v17 wr => ∃ u k : Nat, v17 = .int .i64 (k : Int) ∧ Aside (k = a + u) ∧ Aside (gg + t = u ∧ u ≤ L.length) ∧ Aside (Sl wr 2 (.slice (some ⟨g, 0, none⟩) N c) N (plC (X ++ ((L.take u ++ y :: L.drop u) ++ Y)))) ∧ Aside (KeepK (fun i => i < w.heap.size ∧ i ≠ g) w wr))
      case atStart =>
        refine ⟨L.length, m, rfl, HAB.out.2.1, ⟨by have := HF.out.2; omega, Nat.le_refl _⟩, ?_, KeepK.of_below hB.out fun i hi => hi.1⟩
        show Sl _ _ _ _ _
        rw [List.take_length, List.drop_length]
        exact HS2.out
      case round =>
        obtain ⟨u, k, rfl, hku, hgu, hRow0, hK⟩ := hrel
        have hkI : (k : Int) ≤ 1000000 := by have := hku.out; have := hgu.out; have := HAB.out; omega
        by_cases hlt : t < u
        · obtain ⟨v, rfl⟩ : ∃ v, u = v + 1 := ⟨u - 1, by omega⟩
          obtain ⟨s, hs⟩ : ∃ s, L[v]? = some s := ⟨_, List.getElem?_eq_getElem (by have := hgu.out; omega)⟩
          have hlt2 : (i : Int) < (k : Int) := by have := hku.out; have := HF.out.2; omega
          obtain ⟨q, hq⟩ : ∃ q, k - 1 = q := ⟨_, rfl⟩
          obtain ⟨h1, h2⟩ := List.getElem?_eq_some_iff.1 hs
          have eD : X ++ ((L.take (v + 1) ++ y :: L.drop (v + 1)) ++ Y) = (X ++ L.take v) ++ s :: ([] ++ y :: (L.drop (v + 1) ++ Y)) := by rw [List.take_succ_eq_append_getElem h1, h2]; simp
          have eE : X ++ ((L.take v ++ y :: L.drop v) ++ Y) = (X ++ L.take v) ++ y :: ([] ++ s :: (L.drop (v + 1) ++ Y)) := by rw [List.drop_eq_getElem_cons h1, h2]; simp
          have hRow := hRow0.out
          rw [eD] at hRow
          have lq : q = (X ++ L.take v).length := by have := hku.out; have := HAB.out; simp; omega
          have lk : k = (X ++ L.take v).length + 1 + ([] : List Pl).length := by rw [← lq, ← hq]; have := hku.out; simp; omega
          have hkN : k < N := by have := hku.out; have := hgu.out; have := HAB.out; omega
          have hqN : q < N := by omega
          have hats := at_fstPl (X ++ L.take v) [] (L.drop (v + 1) ++ Y) s y
          have hatx := at_sndPl (X ++ L.take v) [] (L.drop (v + 1) ++ Y) s y
          rw [← lk] at hatx
          rw [← lq] at hats
          have hSW := swap_mid3Pl (X ++ L.take v) [] (L.drop (v + 1) ++ Y) y s lq lk
          have hkNI : (k : Int) < (N : Int) := by omega
          have hqNI : (q : Int) < (N : Int) := by omega
          have hqk : q + 1 = k := by have := hku.out; omega
          have hw1 : IntKind.i64.wrap ((k : Int) - 1) = (q : Int) := by rw [IntKind.wrap_i64]; omega
          have HJ := Lib.hid (And.intro hSW (And.intro eE (And.intro hkN (And.intro hqN (And.intro hlt hqk)))))
          have c0 : wr.cell? ⟨g, k * 2, none⟩ = some (.string y.nm) := hRow.cell rfl (plC_0 hatx)
          have c1 : wr.cell? ⟨g, k * 2 + 1, none⟩ = some (.slice y.A y.L.length y.c) := hRow.cell rfl (plC_1 hatx)
          have d0 : wr.cell? ⟨g, q * 2, none⟩ = some (.string s.nm) := hRow.cell rfl (plC_0 hats)
          have d1 : wr.cell? ⟨g, q * 2 + 1, none⟩ = some (.slice s.A s.L.length s.c) := hRow.cell rfl (plC_1 hats)

          have f0 := hRow.free (g := g) rfl (j := k * 2) (by omega)
          have f1 := hRow.free (g := g) rfl (j := k * 2 + 1) (by omega)
          have f2 := hRow.free (g := g) rfl (j := q * 2) (by omega)
          have f3 := hRow.free (g := g) rfl (j := q * 2 + 1) (by omega)
          have n1 : (⟨g, q * 2, none⟩ : Addr) ≠ ⟨g, k * 2, none⟩ := by intro h; injection h; omega
          have n2 : (⟨g, q * 2, none⟩ : Addr) ≠ ⟨g, k * 2 + 1, none⟩ := by intro h; injection h; omega
          have n3 : (⟨g, q * 2 + 1, none⟩ : Addr) ≠ ⟨g, k * 2, none⟩ := by intro h; injection h; omega
          have n4 : (⟨g, q * 2 + 1, none⟩ : Addr) ≠ ⟨g, k * 2 + 1, none⟩ := by intro h; injection h; omega
          have u0 : ((wr.setCell ⟨g, k * 2, none⟩ (.string s.nm)).setCell ⟨g, k * 2 + 1, none⟩ (.slice s.A s.L.length s.c)).cell? ⟨g, q * 2, none⟩ = some (.string s.nm) := by rw [World.cell?_setCell_other _ _ _ _ n2.symm, World.cell?_setCell_other _ _ _ _ n1.symm]; exact d0
          have u1 : ((wr.setCell ⟨g, k * 2, none⟩ (.string s.nm)).setCell ⟨g, k * 2 + 1, none⟩ (.slice s.A s.L.length s.c)).cell? ⟨g, q * 2 + 1, none⟩ = some (.slice s.A s.L.length s.c) := by rw [World.cell?_setCell_other _ _ _ _ n4.symm, World.cell?_setCell_other _ _ _ _ n3.symm]; exact d1
          have u2 : (((wr.setCell ⟨g, k * 2, none⟩ (.string s.nm)).setCell ⟨g, k * 2 + 1, none⟩ (.slice s.A s.L.length s.c)).setCell ⟨g, q * 2, none⟩ (.string y.nm)).cell? ⟨g, q * 2 + 1, none⟩ = some (.slice s.A s.L.length s.c) := by rw [World.cell?_setCell_other _ _ _ _ (by intro h; injection h; omega)]; exact u1
          have HRW := Lib.hid hRow
          clear hatx hats hRow  hSW eE eD hkN hqN hq hlt lk lq hs h2 hqk
          go_wp2_with (fail)
          go_region
          clear u0 u1 u2 n1 n2 n3 n4 c0 c1 d0 d1 f0 f1 f2 f3
          go_wp2_with (fail)
          obtain ⟨hSW, eE, hkN, hqN, hlt, hqk⟩ := HJ.out
          clear hw1
          go_roundg (v - t)
          case measure => have := hgu.out; omega
          case rel =>
            refine ⟨v, q, by first | rfl | (congr 1; omega), (by show _ = _; have := hku.out; omega), (by show _ ∧ _; have := hgu.out; omega), ?_, (keep_swapPl k q y s hK.out).drew⟩
            show Sl _ _ _ _ _
            have h2 := sl_swapPl y s HRW.out hkN hqN
            rw [hSW, ← eE] at h2
            exact h2.drew
        · have hlt2 : ¬ (i : Int) < (k : Int) := by have := hku.out; have := HF.out.2; omega
          have hut : u = t := by have := hgu.out; omega
          have HU := Lib.hid hut
          clear hut hlt
          go_wp2_with (fail)
          refine bodyPost_end (results_none rfl _ _ _) rfl ?_
          refine ⟨rfl, L.take t ++ y :: L.drop t, HF.out.1.1, HF.out.1.2, ?_, hK.out⟩
          have h1 := hRow0.out
          rw [HU.out] at h1
          exact h1
end Go.Proofs.YthnngndnpigjbaaGreat
