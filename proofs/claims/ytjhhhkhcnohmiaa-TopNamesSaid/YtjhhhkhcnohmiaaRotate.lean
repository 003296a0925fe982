/- The walks of slices.swapRangeCmpFunc and slices.rotateCmpFunc at places. The walk of slices.rotateCmpFunc at places. -/
import Derived.Test.YtjhhhkhcnohmiaaStable
namespace Go.Proofs.Ytjhhhkhcnohmiaa
open Go.RowKit Go.Lib

/-- Two places of a row changed. -/
def swp (D : List Pl) (j p : Nat) (x s : Pl) : List Pl := (D.set j s).set p x
def swapW (w : World) (g j p : Nat) (x s : Pl) : World := (((w.setCell ⟨g, j * 2, none⟩ (.string s.nm)).setCell ⟨g, j * 2 + 1, none⟩ s.s).setCell ⟨g, p * 2, none⟩ (.string x.nm)).setCell ⟨g, p * 2 + 1, none⟩ x.s
theorem sl_swap {w : World} {g c N j p : Nat} {D : List Pl} (x s : Pl) (h : Sl w 2 (.slice (some ⟨g, 0, none⟩) N c) N (plC D)) (hj : j < N) (hp : p < N) :
    Sl (swapW w g j p x s) 2 (.slice (some ⟨g, 0, none⟩) N c) N (plC (swp D j p x s)) := by
  have h2 := (((h.set_ (g := g) rfl (j * 2) (.string s.nm) (by omega)).set_ (g := g) rfl (j * 2 + 1) s.s (by omega)).set_ (g := g) rfl (p * 2) (.string x.nm) (by omega)).set_ (g := g) rfl (p * 2 + 1) x.s (by omega)
  rw [← plC_set, ← plC_set] at h2
  exact h2
theorem keep_swap {w0 w : World} {g : Nat} (j p : Nat) (x s : Pl) (h : KeepK (fun i => i < w0.heap.size ∧ i ≠ g) w0 w) : KeepK (fun i => i < w0.heap.size ∧ i ≠ g) w0 (swapW w g j p x s) :=
  (((h.setCell (p := ⟨g, j * 2, none⟩) (fun _ hi => hi.2) _).setCell (p := ⟨g, j * 2 + 1, none⟩) (fun _ hi => hi.2) _).setCell (p := ⟨g, p * 2, none⟩) (fun _ hi => hi.2) _).setCell (p := ⟨g, p * 2 + 1, none⟩) (fun _ hi => hi.2) _
theorem swap_mid2 (P Q R : List Pl) (x s : Pl) {j p : Nat} (hj : j = P.length) (hp : p = P.length + 1 + Q.length) : swp (P ++ x :: (Q ++ s :: R)) j p x s = P ++ s :: (Q ++ x :: R) := by
  subst hj hp
  unfold swp
  rw [List.set_append_right _ _ (by omega), List.set_append_right _ _ (by omega)]
  simp only [Nat.sub_self, List.set_cons_zero]
  rw [show P.length + 1 + Q.length - P.length = Q.length + 1 by omega, List.set_cons_succ, List.set_append_right _ _ (by omega)]
  simp
theorem at_fst (P Q R : List Pl) (x s : Pl) : (P ++ x :: (Q ++ s :: R))[P.length]? = some x := by simp
theorem at_snd (P Q R : List Pl) (x s : Pl) : (P ++ x :: (Q ++ s :: R))[P.length + 1 + Q.length]? = some s := by
  rw [List.getElem?_append_right (by omega), show P.length + 1 + Q.length - P.length = Q.length + 1 by omega, List.getElem?_cons_succ, List.getElem?_append_right (by omega)]
  simp

set_option maxRecDepth 100000 in
set_option maxHeartbeats 4000000 in
theorem swapR_any (g c a b n N : Nat) (X A M B Y : List Pl) (w : World) (hS : Sl w 2 (.slice (some ⟨g, 0, none⟩) N c) N (plC (X ++ (A ++ (M ++ (B ++ Y))))))
    (hN : (X ++ (A ++ (M ++ (B ++ Y)))).length = N) (hn : N ≤ 1000000) (hAB : A.length = B.length) (ha : a = X.length) (hb : b = X.length + A.length + M.length) (hnn : n = A.length) :
    Calls Try.prog 95 #[.slice (some ⟨g, 0, none⟩) N c, .int .i64 (a : Int), .int .i64 (b : Int), .int .i64 (n : Int), .func (.func 69) #[] #[]] w fun e w' => e = .returned (.tuple #[]) ∧ Sl w' 2 (.slice (some ⟨g, 0, none⟩) N c) N (plC (X ++ (B ++ (M ++ (A ++ Y))))) ∧ KeepK (fun i => i < w.heap.size ∧ i ≠ g) w w' := by
  have hN3 : N = X.length + (A.length + (M.length + (B.length + Y.length))) := by rw [← hN]; simp
  have hNI : (N : Int) ≤ 1000000 := by omega
  have haI : (a : Int) ≤ 1000000 := by omega
  have hbI : (b : Int) ≤ 1000000 := by omega
  have hnI : (n : Int) ≤ 1000000 := by omega
  have HS := Lib.hid hS
  have HAB := Lib.hid (And.intro ha (And.intro hb (And.intro hnn (And.intro hAB hN3))))
  clear hS hN hn hAB ha hb hnn hN3
  go_enter Try.func95, Try.ntmps95
  go_wp2_with (fail)
  go_loopg [10] n (fun gg v10 wr => ∃ i : Nat, v10 = .int .i64 (i : Int) ∧ Aside (gg + i = n) ∧ Aside (Sl wr 2 (.slice (some ⟨g, 0, none⟩) N c) N (plC (X ++ ((B.take i ++ A.drop i) ++ (M ++ ((A.take i ++ B.drop i) ++ Y)))))) ∧ Aside (KeepK (fun i => i < w.heap.size ∧ i ≠ g) w wr))
  case atStart => exact ⟨0, rfl, rfl, HS.out, KeepK.refl _ _⟩
  case round =>
    obtain ⟨i, rfl, hg, hRow, hK⟩ := hrel
    by_cases hlt : i < n
    · obtain ⟨x, hx⟩ : ∃ x, A[i]? = some x := ⟨_, List.getElem?_eq_getElem (by have := HAB.out; omega)⟩
      obtain ⟨s, hs⟩ : ∃ s, B[i]? = some s := ⟨_, List.getElem?_eq_getElem (by have := HAB.out; omega)⟩
      obtain ⟨j, hj⟩ : ∃ j, a + i = j := ⟨_, rfl⟩
      obtain ⟨p, hp⟩ : ∃ p, b + i = p := ⟨_, rfl⟩
      have hltI : (i : Int) < (n : Int) := by omega
      obtain ⟨q1, q2⟩ := List.getElem?_eq_some_iff.1 hx
      obtain ⟨q3, q4⟩ := List.getElem?_eq_some_iff.1 hs
      have eD : X ++ ((B.take i ++ A.drop i) ++ (M ++ ((A.take i ++ B.drop i) ++ Y))) = (X ++ B.take i) ++ x :: ((A.drop (i + 1) ++ (M ++ A.take i)) ++ s :: (B.drop (i + 1) ++ Y)) := by
        rw [List.drop_eq_getElem_cons q1, List.drop_eq_getElem_cons q3, q2, q4]; simp
      have eE : X ++ ((B.take (i + 1) ++ A.drop (i + 1)) ++ (M ++ ((A.take (i + 1) ++ B.drop (i + 1)) ++ Y))) = (X ++ B.take i) ++ s :: ((A.drop (i + 1) ++ (M ++ A.take i)) ++ x :: (B.drop (i + 1) ++ Y)) := by
        rw [List.take_succ_eq_append_getElem q1, List.take_succ_eq_append_getElem q3, q2, q4]; simp
      have lj : j = (X ++ B.take i).length := by have := HAB.out; simp; omega
      have lp : p = (X ++ B.take i).length + 1 + (A.drop (i + 1) ++ (M ++ A.take i)).length := by have := HAB.out; simp; omega
      have hR2 := hRow.out
      rw [eD] at hR2
      have hjN : j < N := by have := HAB.out; omega
      have hpN : p < N := by have := HAB.out; omega
      have hatx := at_fst (X ++ B.take i) (A.drop (i + 1) ++ (M ++ A.take i)) (B.drop (i + 1) ++ Y) x s
      have hats := at_snd (X ++ B.take i) (A.drop (i + 1) ++ (M ++ A.take i)) (B.drop (i + 1) ++ Y) x s
      rw [← lj] at hatx
      rw [← lp] at hats
      have hSW := swap_mid2 (X ++ B.take i) (A.drop (i + 1) ++ (M ++ A.take i)) (B.drop (i + 1) ++ Y) x s lj lp
      have c0 : wr.cell? ⟨g, j * 2, none⟩ = some (.string x.nm) := hR2.cell rfl (plC_0 hatx)
      have c1 : wr.cell? ⟨g, j * 2 + 1, none⟩ = some (.slice x.A x.L.length x.c) := hR2.cell rfl (plC_1 hatx)
      have d0 : wr.cell? ⟨g, p * 2, none⟩ = some (.string s.nm) := hR2.cell rfl (plC_0 hats)
      have d1 : wr.cell? ⟨g, p * 2 + 1, none⟩ = some (.slice s.A s.L.length s.c) := hR2.cell rfl (plC_1 hats)
      have f0 := hR2.free (g := g) rfl (j := j * 2) (by omega)
      have f1 := hR2.free (g := g) rfl (j := j * 2 + 1) (by omega)
      have f2 := hR2.free (g := g) rfl (j := p * 2) (by omega)
      have f3 := hR2.free (g := g) rfl (j := p * 2 + 1) (by omega)
      have hjp : j < p := by omega
      have n1 : (⟨g, p * 2, none⟩ : Addr) ≠ ⟨g, j * 2, none⟩ := by intro h; injection h; omega
      have n2 : (⟨g, p * 2, none⟩ : Addr) ≠ ⟨g, j * 2 + 1, none⟩ := by intro h; injection h; omega
      have n3 : (⟨g, p * 2 + 1, none⟩ : Addr) ≠ ⟨g, j * 2, none⟩ := by intro h; injection h; omega
      have n4 : (⟨g, p * 2 + 1, none⟩ : Addr) ≠ ⟨g, j * 2 + 1, none⟩ := by intro h; injection h; omega
      have u0 : ((wr.setCell ⟨g, j * 2, none⟩ (.string s.nm)).setCell ⟨g, j * 2 + 1, none⟩ (.slice s.A s.L.length s.c)).cell? ⟨g, p * 2, none⟩ = some (.string s.nm) := by rw [World.cell?_setCell_other _ _ _ _ n2.symm, World.cell?_setCell_other _ _ _ _ n1.symm]; exact d0
      have u1 : ((wr.setCell ⟨g, j * 2, none⟩ (.string s.nm)).setCell ⟨g, j * 2 + 1, none⟩ (.slice s.A s.L.length s.c)).cell? ⟨g, p * 2 + 1, none⟩ = some (.slice s.A s.L.length s.c) := by rw [World.cell?_setCell_other _ _ _ _ n4.symm, World.cell?_setCell_other _ _ _ _ n3.symm]; exact d1
      have u2 : (((wr.setCell ⟨g, j * 2, none⟩ (.string s.nm)).setCell ⟨g, j * 2 + 1, none⟩ (.slice s.A s.L.length s.c)).setCell ⟨g, p * 2, none⟩ (.string x.nm)).cell? ⟨g, p * 2 + 1, none⟩ = some (.slice s.A s.L.length s.c) := by rw [World.cell?_setCell_other _ _ _ _ (by intro h; injection h; omega)]; exact u1
      have hw1 : IntKind.i64.wrap ((a : Int) + (i : Int)) = (j : Int) := by rw [IntKind.wrap_i64]; omega
      have hw2 : IntKind.i64.wrap ((b : Int) + (i : Int)) = (p : Int) := by rw [IntKind.wrap_i64]; omega
      have hjI : (j : Int) < (N : Int) := by omega
      have hpI : (p : Int) < (N : Int) := by omega
      have HJ := Lib.hid (And.intro hR2 (And.intro hSW (And.intro eE (And.intro hjN (And.intro hpN hlt)))))
      clear hatx hats hSW eD eE lj lp hx hs q2 q4 hR2 hjN hpN hj hp hjp hlt
      go_wp2_with (fail)
      go_region
      clear hw1 hw2 u0 u1 u2 n1 n2 n3 n4 c0 c1 d0 d1 f0 f1 f2 f3
      go_wp2_with (fail)
      obtain ⟨hR2, hSW, eE, hjN, hpN, hlt⟩ := HJ.out
      go_roundg (n - (i + 1))
      case measure => have := hg.out; omega
      case rel =>
        refine ⟨i + 1, by go_num, ?_, ?_, ?_⟩
        · show _ = _
          have := hg.out
          omega
        · show Sl _ _ _ _ _
          have h2 := sl_swap x s hR2 hjN hpN
          rw [hSW, ← eE] at h2
          exact h2.drew
        · exact (keep_swap j p x s hK.out).drew
    · have hltI : ¬ (i : Int) < (n : Int) := by omega
      have hin : i = n := by have := hg.out; omega
      have HI := Lib.hid hin
      clear hin hlt
      go_wp2_with (fail)
      refine bodyPost_end (results_none rfl _ _ _) rfl ?_
      have h1 := hRow.out
      rw [List.take_of_length_le (by have := HAB.out; have := HI.out; omega), List.take_of_length_le (by have := HAB.out; have := HI.out; omega), List.drop_eq_nil_of_le (by have := HAB.out; have := HI.out; omega), List.drop_eq_nil_of_le (by have := HAB.out; have := HI.out; omega), List.append_nil, List.append_nil] at h1
      exact ⟨rfl, h1, hK.out⟩
end Go.Proofs.Ytjhhhkhcnohmiaa

namespace Go.Proofs.Ytjhhhkhcnohmiaa
open Go.RowKit Go.Lib

set_option maxRecDepth 100000 in
set_option maxHeartbeats 4000000 in
theorem rotate_any (g c a m b N : Nat) (X U V Y : List Pl) (w : World) (hS : Sl w 2 (.slice (some ⟨g, 0, none⟩) N c) N (plC (X ++ (U ++ (V ++ Y)))))
    (hN : (X ++ (U ++ (V ++ Y))).length = N) (hn : N ≤ 1000000) (ha : a = X.length) (hm : m = X.length + U.length) (hb : b = X.length + U.length + V.length) (hU : 1 ≤ U.length) (hV : 1 ≤ V.length) :
    Calls Try.prog 94 #[.slice (some ⟨g, 0, none⟩) N c, .int .i64 (a : Int), .int .i64 (m : Int), .int .i64 (b : Int), .func (.func 69) #[] #[]] w fun e w' => e = .returned (.tuple #[]) ∧ Sl w' 2 (.slice (some ⟨g, 0, none⟩) N c) N (plC (X ++ (V ++ (U ++ Y)))) ∧ KeepK (fun i => i < w.heap.size ∧ i ≠ g) w w' := by
  have hN3 : N = X.length + (U.length + (V.length + Y.length)) := by rw [← hN]; simp
  have hNI : (N : Int) ≤ 1000000 := by omega
  have haI : (a : Int) ≤ 1000000 := by omega
  have hmI : (m : Int) ≤ 1000000 := by omega
  have hbI : (b : Int) ≤ 1000000 := by omega
  have e1 : (m : Int) - (a : Int) = (U.length : Int) := by omega
  have e2 : (b : Int) - (m : Int) = (V.length : Int) := by omega
  have HS := Lib.hid hS
  have HAB := Lib.hid (And.intro hm (And.intro hU (And.intro hV (And.intro hN3 hn))))
  have HE := Lib.hid (And.intro e1 e2)
  clear hS hN hn ha hm hb hN3 hU hV e1 e2
  go_enter Try.func94, Try.ntmps94
  go_wp2_with (fail)
  go_loopg [10, 11] (U.length + V.length) (fun gg v10 v11 wr => ∃ (i j : Nat) (X1 U1 V1 Y1 : List Pl), v10 = .int .i64 (i : Int) ∧ v11 = .int .i64 (j : Int) ∧ Aside (i = U1.length ∧ j = V1.length ∧ 1 ≤ i ∧ 1 ≤ j ∧ m = X1.length + i ∧ gg = i + j) ∧ Aside (X1 ++ (V1 ++ (U1 ++ Y1)) = X ++ (V ++ (U ++ Y))) ∧ Aside (N = X1.length + (U1.length + (V1.length + Y1.length))) ∧ Aside (Sl wr 2 (.slice (some ⟨g, 0, none⟩) N c) N (plC (X1 ++ (U1 ++ (V1 ++ Y1))))) ∧ Aside (KeepK (fun i => i < w.heap.size ∧ i ≠ g) w wr))
  case atStart =>
    obtain ⟨h1, h2, h3, h4, h5⟩ := HAB.out
    exact ⟨U.length, V.length, X, U, V, Y, by first | rfl | (rw [HE.out.1]), by first | rfl | (rw [HE.out.2]), ⟨rfl, rfl, h2, h3, h1, rfl⟩, rfl, h4, HS.out, KeepK.refl _ _⟩
  case round =>
    obtain ⟨i, j, X1, U1, V1, Y1, rfl, rfl, hL, hT, hNN, hRow, hK⟩ := hrel
    clear HE
    obtain ⟨p, hp⟩ : ∃ p, X1.length = p := ⟨_, rfl⟩
    have hpm : (m : Int) - (i : Int) = (p : Int) := by have := hL.out; omega
    have hiI : (i : Int) ≤ 1000000 := by have := hL.out; have := hNN.out; have := HAB.out; omega
    have hjI : (j : Int) ≤ 1000000 := by have := hL.out; have := hNN.out; have := HAB.out; omega
    by_cases hij : i = j
    · have hne : ((i : Int) != (j : Int)) = false := by subst hij; simp
      have h1 := swapR_any g c p m i N X1 U1 [] V1 Y1 wr (by simpa using hRow.out) (by have := hNN.out; simp; omega) HAB.out.2.2.2.2 (by have := hL.out; omega) hp.symm (by have := hL.out; simp; omega) (by have := hL.out; omega)
      rw [← hpm] at h1
      have HC := Lib.hid h1
      clear h1 hij hp hpm
      go_wp2_with (fail)
      with_reducible refine HC.out.mono ?_
      rintro e w1 ⟨rfl, h2, h3⟩
      have h4 : Sl w1 2 (.slice (some ⟨g, 0, none⟩) N c) N (plC (X ++ (V ++ (U ++ Y)))) := by
        rw [← hT.out]; simpa using h2
      have H := Lib.hid (And.intro h4 (hK.out.trans (h3.mono fun i hi => ⟨Nat.lt_of_lt_of_le hi.1 hK.out.size, hi.2⟩)))
      clear h2 h3 h4
      go_wp2_with (fail)
      refine bodyPost_end (results_none rfl _ _ _) rfl ?_
      exact ⟨rfl, H.out.1, H.out.2⟩
    · have hne : ((i : Int) != (j : Int)) = true := by simp; omega
      by_cases hgt : j < i
      · have hgtI : (j : Int) < (i : Int) := by omega
        have h1 := swapR_any g c p m j N X1 (U1.take j) (U1.drop j) V1 Y1 wr (by rw [← List.append_assoc (U1.take j), List.take_append_drop]; exact hRow.out) (by have := hL.out; have := hNN.out; simp; omega) HAB.out.2.2.2.2 (by have := hL.out; simp; omega) hp.symm (by have := hL.out; simp; omega) (by have := hL.out; simp; omega)
        rw [← hpm] at h1
        have HC := Lib.hid h1
        have HG := Lib.hid hgt
        clear h1 hij hp hpm hgt
        go_wp2_with (fail)
        with_reducible refine HC.out.mono ?_
        rintro e w1 ⟨rfl, h2, h3⟩
        have H := Lib.hid (And.intro h2 (hK.out.trans (h3.mono fun i hi => ⟨Nat.lt_of_lt_of_le hi.1 hK.out.size, hi.2⟩)))
        clear h2 h3
        go_wp2_with (fail)
        go_roundg (i - j + j)
        case measure => have := hL.out; have := HG.out; omega
        case rel =>
          obtain ⟨l1, l2, l3, l4, l5, l6⟩ := hL.out
          have hg := HG.out
          refine ⟨i - j, j, X1 ++ V1, U1.drop j, U1.take j, Y1, ?_, rfl, ⟨?_, ?_, ?_, ?_, ?_, rfl⟩, ?_, ?_, ?_, H.out.2⟩
          · congr 1; omega
          · simp; omega
          · simp; omega
          · omega
          · omega
          · simp; omega
          · show _ = _
            rw [← hT.out]
            have e : X1 ++ V1 ++ (U1.take j ++ (U1.drop j ++ Y1)) = X1 ++ (V1 ++ ((U1.take j ++ U1.drop j) ++ Y1)) := by simp only [List.append_assoc]
            rw [e, List.take_append_drop]
          · show _ = _
            have := hNN.out
            simp; omega
          · show Sl _ _ _ _ _
            have h2 := H.out.1
            rw [show X1 ++ V1 ++ (U1.drop j ++ (U1.take j ++ Y1)) = X1 ++ (V1 ++ (U1.drop j ++ (U1.take j ++ Y1))) by simp]
            exact h2
      · have hgtI : ¬ (j : Int) < (i : Int) := by omega
        obtain ⟨q, hq⟩ : ∃ q, m + j - i = q := ⟨_, rfl⟩
        have hqm : (m : Int) + (j : Int) - (i : Int) = (q : Int) := by omega
        have h1 := swapR_any g c p q i N X1 U1 (V1.take (j - i)) (V1.drop (j - i)) Y1 wr (by rw [← List.append_assoc (V1.take (j - i)), List.take_append_drop]; exact hRow.out) (by have := hL.out; have := hNN.out; simp; omega) HAB.out.2.2.2.2 (by have := hL.out; simp; omega) hp.symm (by have := hL.out; simp; omega) (by have := hL.out; omega)
        rw [← hpm, ← hqm] at h1
        have HC := Lib.hid h1
        have HG := Lib.hid (show i < j by omega)
        clear h1 hij hp hpm hgt hq hqm
        go_wp2_with (fail)
        with_reducible refine HC.out.mono ?_
        rintro e w1 ⟨rfl, h2, h3⟩
        have H := Lib.hid (And.intro h2 (hK.out.trans (h3.mono fun i hi => ⟨Nat.lt_of_lt_of_le hi.1 hK.out.size, hi.2⟩)))
        clear h2 h3
        go_wp2_with (fail)
        go_roundg (i + (j - i))
        case measure => have := hL.out; have := HG.out; omega
        case rel =>
          obtain ⟨l1, l2, l3, l4, l5, l6⟩ := hL.out
          have hg := HG.out
          refine ⟨i, j - i, X1, V1.drop (j - i), V1.take (j - i), U1 ++ Y1, rfl, ?_, ⟨?_, ?_, ?_, ?_, ?_, rfl⟩, ?_, ?_, ?_, H.out.2⟩
          · congr 1; omega
          · simp; omega
          · simp; omega
          · omega
          · omega
          · omega
          · show _ = _
            rw [← hT.out]
            have e : X1 ++ (V1.take (j - i) ++ (V1.drop (j - i) ++ (U1 ++ Y1))) = X1 ++ ((V1.take (j - i) ++ V1.drop (j - i)) ++ (U1 ++ Y1)) := by simp only [List.append_assoc]
            rw [e, List.take_append_drop]
          · show _ = _
            have := hNN.out
            simp; omega
          · exact H.out.1
end Go.Proofs.Ytjhhhkhcnohmiaa
