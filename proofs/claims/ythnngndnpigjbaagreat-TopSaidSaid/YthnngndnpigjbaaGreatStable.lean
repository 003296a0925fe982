/- The walks of package walk's rising and Less. Rows of places (a name, and its labels, the last one first) in memory; the walk of walk.Sort's comparison. The walk of slices.insertionSortCmpFunc at places. The walks of slices.stableCmpFunc and slices.SortStableFunc at fewer than 20 places. -/
import Derived.Test.YthnngndnpigjbaaGreatCmp
import Derived.Test.YthnngndnpigjbaaGreatCollect
import Derived.Test.YthnngndnpigjbaaGreatOrd
import Derived.Deep.QuietTactic
import Derived.BigQuiet
import Derived.BigRegion
import Derived.Deep.RegionHeld3
import Derived.IntWalk
namespace Go.Proofs.YthnngndnpigjbaaGreat
open Go.RowKit Go.Lib

/-- A name's labels in small letters, the last one first. -/
def ris (n : Bs) : List Bs := (namL (foldB n)).reverse
/-- Does a name stand ahead? -/
def lessP (a b : Bs) : Bool := isName a && (isName b && decide (cmpL (ris a) (ris b) < 0))
theorem Labels_any (s : ByteArray) (w : World) : Calls Tryz.prog 31 #[.string s] w fun e w' => e = .returned (.func (.func 52) #[] #[.pointer (some ⟨w.heap.size, 0, none⟩)]) ∧ w' = w.alloc (.cells #[.string s] 9) :=
  (callsIn_wide (n := 8)).1 (Labels_in 8 s w)
set_option maxRecDepth 100000 in
set_option maxHeartbeats 2000000 in
theorem rising_any (n : ByteArray) (hn : n.size ≤ 1000000) (w : World) : Calls Tryz.prog 70 #[.string n] w (CollPost (ris n.data.toList) w) := by
  have hF := Lib.hid (Fold_any n (by omega) w)
  obtain ⟨s, hs⟩ : ∃ s : ByteArray, (⟨(foldB n.data.toList).toArray⟩ : ByteArray) = s := ⟨_, rfl⟩
  rw [hs] at hF
  have hsl : s.data.toList = foldB n.data.toList := by rw [← hs]
  have hsz : s.size ≤ 1000000 := by
    have h1 : s.data.toList.length = n.data.toList.length := by rw [hsl, foldB_length]
    simp at h1
    omega
  have hSM := Lib.hid (fun W B hB => Labels1_M B s (by unfold maxLen; omega) W hB)
  have hlen : (namL s.data.toList).length ≤ 1000000 := by
    have h1 := namL_length_le s.data.toList
    simp at h1
    omega
  unfold ris
  rw [← hsl]
  generalize namL s.data.toList = L at hSM hlen ⊢
  have HL := Lib.hid hlen
  clear hs hsl hsz hlen hn
  go_enter Tryz.func70, Tryz.ntmps70
  go_wp2_with (fail)
  refine hF.out.mono ?_
  rintro e w1 ⟨rfl, hb⟩
  have B1 := Lib.hid hb
  clear hb hF
  go_wp2_with (fail)
  refine (Labels_any s w1).mono ?_
  rintro e w2 ⟨rfl, rfl⟩
  have HC := Lib.hid (collect_any L (w1.alloc (.cells #[.string s] 9)) (hSM.out _ w1.heap.size (Blk.new w1 _ _)) (by simp) (enters_of Tryz.func52 (by kernel_rfl) rfl) HL.out)
  have B2 := Lib.hid (B1.out.alloc B1.out.size (.cells #[.string s] 9))
  have HZ := Lib.hid (show w1.heap.size ≤ (w1.alloc (.cells #[.string s] 9)).heap.size from by simp)
  go_wp2_with (fail)
  refine HC.out.mono ?_
  rintro e w3 ⟨A, c, rfl, h1, h2, h3⟩
  have B3 := Lib.hid (B2.out.trans (h3.mono B2.out.size))
  have hLs : (L.map fun x => (⟨x.toArray⟩ : ByteArray)).map Value.string = strs L := by simp [strs]
  have hLl : (L.map fun x => (⟨x.toArray⟩ : ByteArray)).length = L.length := List.length_map _
  have hR := Lib.hid (reverse_any A c (L.map fun x => ⟨x.toArray⟩) w3 (by rw [hLl, hLs]; exact h1) (by rw [hLl]; exact HL.out))
  have hR2 : Hid (Calls Tryz.prog 85 #[.slice A L.length c] w3 fun e w' => e = .returned (.tuple #[]) ∧ Sl w' 1 (.slice A L.length c) L.length (strs L.reverse) ∧ KeepK (fun i => i < w3.heap.size ∧ (Value.slice A L.length c).ownBlock ≠ some i) w3 w') := by
    have h := hR.out
    rw [List.length_map] at h
    have e : ((L.map fun x => (⟨x.toArray⟩ : ByteArray)).reverse).map Value.string = strs L.reverse := by simp [strs]
    rw [e] at h
    exact Lib.hid h
  have HO := Lib.hid h2
  clear h1 h2 h3 hR HC hLs hLl
  go_wp2_with (fail)
  refine hR2.out.mono ?_
  rintro e w4 ⟨rfl, h1, h2⟩
  have H4 := Lib.hid (And.intro h1 (B3.out.trans (h2.below (B := w.heap.size) fun i hi => ⟨Nat.lt_of_lt_of_le hi B3.out.size, fun e => by have h5 := HO.out i e; have h6 := HZ.out; have h7 := B1.out.size; omega⟩)))
  clear h1 h2 hR2
  go_wp2_with (fail)
  go_ret
  refine ⟨A, c, by rw [List.length_reverse]; rfl, ?_, ?_, H4.out.2⟩
  · rw [List.length_reverse]; exact H4.out.1
  · rw [List.length_reverse]
    intro g hg
    have h5 := HO.out g hg
    have h6 := HZ.out
    have h7 := B1.out.size
    omega
theorem ris_len (n : Bs) : (ris n).length ≤ n.length := by
  unfold ris
  rw [List.length_reverse]
  have := namL_length_le (foldB n)
  rw [foldB_length] at this
  exact this

end Go.Proofs.YthnngndnpigjbaaGreat

namespace Go.Proofs.YthnngndnpigjbaaGreat
open Go.RowKit Go.Lib

/-- A place: a name, and a slice that reads as L. -/
structure Pl where
  nm : ByteArray
  A : Option Addr
  c : Nat
  L : List Bs
def Pl.s (p : Pl) : Value := .slice p.A p.L.length p.c
def Pl.v (p : Pl) : Value := .agg #[.string p.nm, p.s]
def plC (ps : List Pl) : List Value := ps.flatMap fun p => [.string p.nm, p.s]
theorem plC_append (a b : List Pl) : plC (a ++ b) = plC a ++ plC b := by simp [plC]
theorem plC_length : ∀ ps : List Pl, (plC ps).length = ps.length * 2
  | [] => rfl
  | p :: ps => by
    have h : plC (p :: ps) = .string p.nm :: p.s :: plC ps := rfl
    rw [h, List.length_cons, List.length_cons, List.length_cons, plC_length ps]; omega
theorem plC_0 : ∀ {ps : List Pl} {j : Nat} {p : Pl}, ps[j]? = some p → (plC ps)[j * 2]? = some (.string p.nm)
  | q :: ps, 0, p, h => by cases h; rfl
  | q :: ps, j + 1, p, h => by
    rw [show (j + 1) * 2 = j * 2 + 1 + 1 by omega]
    exact plC_0 (ps := ps) (by simpa using h)
theorem plC_1 : ∀ {ps : List Pl} {j : Nat} {p : Pl}, ps[j]? = some p → (plC ps)[j * 2 + 1]? = some p.s
  | q :: ps, 0, p, h => by cases h; rfl
  | q :: ps, j + 1, p, h => by
    rw [show (j + 1) * 2 + 1 = j * 2 + 1 + 1 + 1 by omega]
    exact plC_1 (ps := ps) (by simpa using h)
theorem plC_set : ∀ (ps : List Pl) (i : Nat) (p : Pl), plC (ps.set i p) = ((plC ps).set (i * 2) (.string p.nm)).set (i * 2 + 1) p.s
  | [], i, p => by simp [plC]
  | e :: ps, 0, p => by simp [plC]
  | e :: ps, i + 1, p => by
    have h1 : plC (e :: ps) = .string e.nm :: e.s :: plC ps := rfl
    have h2 : plC ((e :: ps).set (i + 1) p) = .string e.nm :: e.s :: plC (ps.set i p) := rfl
    rw [h1, h2, plC_set ps i p, show (i + 1) * 2 = i * 2 + 1 + 1 by omega, List.set_cons_succ, List.set_cons_succ, List.set_cons_succ, List.set_cons_succ]
/-- All labels of all places lie beside the block g. -/
def PlOk (w : World) (g : Nat) (ps : List Pl) : Prop := ∀ p ∈ ps, TTab w p.A (strs p.L) ∧ (∀ a, p.A = some a → 0 < p.L.length → a.block ≠ g) ∧ p.L.length ≤ 1000000
theorem PlOk.mem {w : World} {g : Nat} {ps qs : List Pl} (h : PlOk w g ps) (hq : ∀ q ∈ qs, q ∈ ps) : PlOk w g qs := fun q hm => h q (hq q hm)
/-- What keeps all blocks but g keeps them. -/
theorem PlOk.keep {w w' : World} {g : Nat} {ps : List Pl} (h : PlOk w g ps) (hk : KeepK (fun i => i < w.heap.size ∧ i ≠ g) w w') : PlOk w' g ps := fun p hp => by
  obtain ⟨h1, h2, h3⟩ := h p hp
  refine ⟨fun hn => ?_, h2, h3⟩
  obtain ⟨b, o, hA, hlt, hc⟩ := h1 hn
  rw [strs_len] at hn
  have hb : b ≠ g := h2 _ hA hn
  refine ⟨b, o, hA, Nat.lt_of_lt_of_le hlt hk.size, fun j u hu => ?_⟩
  rw [World.cell?_of_block (a := ⟨b, o + j, none⟩) (hk.block b ⟨hlt, hb⟩)]
  exact hc j u hu

set_option maxRecDepth 100000 in
theorem cmpPl_any (p q : Pl) (w : World) (g : Nat) {ps : List Pl} (h : PlOk w g ps) (hp : p ∈ ps) (hq : q ∈ ps) :
    Calls Tryz.prog 72 #[p.v, q.v] w fun e w' => e = .returned (.int .i64 (cmpL p.L q.L)) ∧ Below w.heap.size w w' := by
  have hb : Below w.heap.size w ((w.alloc (.cells #[.string p.nm, p.s] 139)).alloc (.cells #[.string q.nm, q.s] 139)) := ((Below.refl _ _).alloc (Nat.le_refl _) _).alloc (by simp) _
  have HC := Lib.hid (compareL_any p.L q.L p.A q.A p.c q.c _ ((h p hp).1.below hb) ((h q hq).1.below hb) (h p hp).2.2 (h q hq).2.2)
  have HB := Lib.hid hb
  obtain ⟨z, hz⟩ : ∃ z, cmpL p.L q.L = z := ⟨_, rfl⟩
  rw [hz] at HC ⊢
  clear hb hz h hp hq
  unfold Pl.v Pl.s at *
  go_enter Tryz.func72, Tryz.ntmps72
  go_wp2_with (fail)
  refine HC.out.mono ?_
  rintro e w' ⟨rfl, rfl⟩
  go_wp2_with (fail)
  go_ret
  exact ⟨rfl, HB.out⟩
end Go.Proofs.YthnngndnpigjbaaGreat

namespace Go.Proofs.YthnngndnpigjbaaGreat
open Go.RowKit Go.Lib

/-- What a row of places holds when a part of it was put in order. -/
def InsPost (g c : Nat) (X M Y : List Pl) (w : World) (e : Ending) (w' : World) : Prop :=
  e = .returned (.tuple #[]) ∧ ∃ M', SrtK Pl.L cmpL M' ∧ StS Pl.L M' M ∧ Sl w' 2 (.slice (some ⟨g, 0, none⟩) (X ++ (M' ++ Y)).length c) (X ++ (M' ++ Y)).length (plC (X ++ (M' ++ Y))) ∧ KeepK (fun i => i < w.heap.size ∧ i ≠ g) w w'
theorem k4D {V W : World} {g o1 o2 o3 o4 : Nat} {x1 x2 x3 x4 : Option Value}
    (H : W.cell? ⟨g, o1, none⟩ = x1 ∧ W.cell? ⟨g, o2, none⟩ = x2 ∧ W.cell? ⟨g, o3, none⟩ = x3 ∧ W.cell? ⟨g, o4, none⟩ = x4 ∧ V.heap.size ≤ W.heap.size ∧ Below V.heap.size V W) :
    W.drew.cell? ⟨g, o1, none⟩ = x1 ∧ W.drew.cell? ⟨g, o2, none⟩ = x2 ∧ W.drew.cell? ⟨g, o3, none⟩ = x3 ∧ W.drew.cell? ⟨g, o4, none⟩ = x4 ∧ V.heap.size ≤ W.drew.heap.size ∧ Below V.heap.size V W.drew :=
  ⟨H.1, H.2.1, H.2.2.1, H.2.2.2.1, H.2.2.2.2.1, H.2.2.2.2.2.drew⟩
theorem k4C {V W w' : World} {g o1 o2 o3 o4 : Nat} {x1 x2 x3 x4 : Option Value} (hg : g < V.heap.size)
    (H : W.cell? ⟨g, o1, none⟩ = x1 ∧ W.cell? ⟨g, o2, none⟩ = x2 ∧ W.cell? ⟨g, o3, none⟩ = x3 ∧ W.cell? ⟨g, o4, none⟩ = x4 ∧ V.heap.size ≤ W.heap.size ∧ Below V.heap.size V W) (hw : Below W.heap.size W w') :
    w'.cell? ⟨g, o1, none⟩ = x1 ∧ w'.cell? ⟨g, o2, none⟩ = x2 ∧ w'.cell? ⟨g, o3, none⟩ = x3 ∧ w'.cell? ⟨g, o4, none⟩ = x4 ∧ V.heap.size ≤ w'.heap.size ∧ Below V.heap.size V w' := by
  obtain ⟨h1, h2, h3, h4, h5, h6⟩ := H
  have hg' : g < W.heap.size := by omega
  exact ⟨(hw.cell (p := ⟨g, o1, none⟩) hg').trans h1, (hw.cell (p := ⟨g, o2, none⟩) hg').trans h2, (hw.cell (p := ⟨g, o3, none⟩) hg').trans h3, (hw.cell (p := ⟨g, o4, none⟩) hg').trans h4, Nat.le_trans h5 hw.size, h6.trans (hw.mono h5)⟩
theorem l6 {a b c d e f : Prop} (H : a ∧ b ∧ c ∧ d ∧ e ∧ f) : f := H.2.2.2.2.2
section
variable {α : Type}
theorem at_mid (X S : List α) (x : α) (Z : List α) : (X ++ (S ++ x :: Z))[X.length + S.length]? = some x := by simp
theorem swap_mid (X S : List α) (x s : α) (Z : List α) : ((X ++ (S ++ s :: x :: Z)).set (X.length + S.length + 1) s).set (X.length + S.length) x = X ++ (S ++ x :: s :: Z) := by
  have e1 : X.length + S.length + 1 - X.length - S.length = 1 := by omega
  have e2 : X.length + S.length - X.length - S.length = 0 := by omega
  rw [List.set_append_right _ _ (by omega), List.set_append_right _ _ (by omega), List.set_append_right _ _ (by omega), List.set_append_right _ _ (by omega), e1, e2]
  rfl
end

set_option maxRecDepth 100000 in
set_option maxHeartbeats 4000000 in
theorem insSort_any (g c a b : Nat) (X M Y : List Pl) (w : World) (hS : Sl w 2 (.slice (some ⟨g, 0, none⟩) (X ++ (M ++ Y)).length c) (X ++ (M ++ Y)).length (plC (X ++ (M ++ Y)))) (hP : PlOk w g (X ++ (M ++ Y))) (hn : (X ++ (M ++ Y)).length ≤ 1000000)
    (ha : a = X.length) (hb : b = X.length + M.length) :
    Calls Tryz.prog 100 #[.slice (some ⟨g, 0, none⟩) (X ++ (M ++ Y)).length c, .int .i64 (a : Int), .int .i64 (b : Int), .func (.func 72) #[] #[]] w (InsPost g c X M Y w) := by
  obtain ⟨N, hN⟩ : ∃ N, (X ++ (M ++ Y)).length = N := ⟨_, rfl⟩
  have hN3 : N = X.length + (M.length + Y.length) := by rw [← hN]; simp
  have hNI : (N : Int) ≤ 1000000 := by omega
  have haI : (a : Int) ≤ 1000000 := by omega
  have hbI : (b : Int) ≤ 1000000 := by omega
  have HS := Lib.hid (And.intro hS (And.intro hP (And.intro hN hn)))
  have HAB := Lib.hid (And.intro ha (And.intro hb hN3))
  rw [hN]
  clear hS hP hn hN ha hb hN3
  go_enter Tryz.func100, Tryz.ntmps100
  go_wp2_with (fail)
  by_cases hM : M.length = 0
  · have hge : ¬ (a : Int) + 1 < (b : Int) := by have := HAB.out; omega
    have hM0 : M = [] := List.eq_nil_of_length_eq_zero hM
    clear hM
    go_loopg [8] 0 (fun _ v8 wr => v8 = .int .i64 ((a : Int) + 1) ∧ wr = w)
    case atStart => exact ⟨rfl, rfl⟩
    case round =>
      obtain ⟨rfl, rfl⟩ := hrel
      have HM := Lib.hid hM0
      clear hM0
      go_wp2_with (fail)
      refine bodyPost_end (results_none rfl _ _ _) rfl ?_
      obtain ⟨hS, hP, hN, hn⟩ := HS.out
      refine ⟨rfl, [], List.Pairwise.nil, by rw [HM.out]; exact StS.refl _, ?_, KeepK.refl _ _⟩
      rw [HM.out] at hS
      exact hS
  have hM1 : 1 ≤ M.length := by omega
  clear hM
  go_loopg [8, 9] (M.length - 1) (fun gg v8 _ wr => ∃ (i k : Nat) (S : List Pl), v8 = .int .i64 (i : Int) ∧ Aside (i = X.length + k) ∧ Aside (gg + k = M.length ∧ 1 ≤ k ∧ k ≤ M.length ∧ S.length = k) ∧ Aside (SrtK Pl.L cmpL S ∧ StS Pl.L S (M.take k)) ∧ Aside (Sl wr 2 (.slice (some ⟨g, 0, none⟩) N c) N (plC (X ++ (S ++ (M.drop k ++ Y))))) ∧ Aside (KeepK (fun i => i < w.heap.size ∧ i ≠ g) w wr))
  case atStart =>
    refine ⟨a + 1, 1, M.take 1, by congr 1, ?_, ?_, ?_, ?_, KeepK.refl _ _⟩
    · show _ = _
      rw [HAB.out.1]
    · show _ ∧ _
      rw [List.length_take]
      exact ⟨by omega, by omega, by omega, by omega⟩
    · refine ⟨?_, StS.refl _⟩
      obtain ⟨m, M', rfl⟩ : ∃ m M', M = m :: M' := by
        cases M with
        | nil => simp at hM1
        | cons m M' => exact ⟨m, M', rfl⟩
      exact List.pairwise_singleton _ _
    · obtain ⟨hS, hP, hN, hn⟩ := HS.out
      rw [hN] at hS
      show Sl _ _ _ _ _
      rw [← List.append_assoc (M.take 1), List.take_append_drop]
      exact hS
  case round =>
    obtain ⟨i, k, S, rfl, hik, hkk, hSS, hRow, hK⟩ := hrel
    have hiI : (i : Int) ≤ 1000000 := by have := hik.out; have := hkk.out; have := HAB.out; omega
    by_cases hlt : i < b
    · have hltI : (i : Int) < (b : Int) := by omega
      obtain ⟨x, hx⟩ : ∃ x, M[k]? = some x := ⟨_, List.getElem?_eq_getElem (by have := hik.out; have := HAB.out; omega)⟩
      have HX := Lib.hid (And.intro hx hlt)
      clear hx hlt
      go_wp2_with (fail)
      go_loopg [9] k (fun gi v9 wi => ∃ (j : Nat) (S1 T : List Pl), v9 = .int .i64 (j : Int) ∧ Aside (j = X.length + S1.length ∧ gi = S1.length) ∧ Aside (S1.length + T.length = k) ∧ Aside (SrtK Pl.L cmpL (S1 ++ T) ∧ StS Pl.L (S1 ++ T) (M.take k) ∧ ∀ t ∈ T, cmpL x.L t.L < 0) ∧ Aside (Sl wi 2 (.slice (some ⟨g, 0, none⟩) N c) N (plC (X ++ (S1 ++ x :: (T ++ (M.drop (k + 1) ++ Y)))))) ∧ Aside (KeepK (fun i => i < w.heap.size ∧ i ≠ g) w wi))
      case atStart =>
        obtain ⟨hg, h1k, hkM, hSl⟩ := hkk.out
        refine ⟨i, S, [], rfl, ⟨by rw [hSl]; exact hik.out, hSl.symm⟩, ?_, ⟨by rw [List.append_nil]; exact hSS.out.1, by rw [List.append_nil]; exact hSS.out.2, fun t ht => absurd ht List.not_mem_nil⟩, ?_, hK.out⟩
        · show S.length + 0 = k
          exact hSl
        · have h := hRow.out
          obtain ⟨h1, h2⟩ := List.getElem?_eq_some_iff.1 HX.out.1
          rw [List.drop_eq_getElem_cons h1, h2] at h
          exact h
      case round =>
        obtain ⟨j, S1, T, rfl, hj, hST, hSS1, hRow1, hK1⟩ := hrel
        clear hRow hK hSS
        have HK2 : Hid (k + 1 ≤ M.length) := Lib.hid (by have := (List.getElem?_eq_some_iff.1 HX.out.1).1; omega)
        have hjI : (j : Int) ≤ 1000000 := by have := hj.out; have := hST.out; have := hkk.out; have := HAB.out; omega
        have fin : (S1.getLast? = none ∨ ∃ s, S1.getLast? = some s ∧ ¬ cmpL x.L s.L < 0) → SrtK Pl.L cmpL (S1 ++ x :: T) ∧ StS Pl.L (S1 ++ x :: T) (M.take (k + 1)) := fun hl => by
          obtain ⟨h1, h2, h3⟩ := hSS1.out
          refine ⟨SrtK.ins cmpL_tot h1 h3 fun s hs => ?_, ?_⟩
          · rcases hl with h | ⟨s', h, h'⟩
            · rw [h] at hs; cases hs
            · rw [h] at hs; cases hs; exact h'
          · obtain ⟨q1, q2⟩ := List.getElem?_eq_some_iff.1 HX.out.1
            rw [List.take_succ_eq_append_getElem q1, q2]
            have e1 : StS Pl.L (S1 ++ x :: T) (S1 ++ (T ++ [x])) := (StS.refl S1).append (StS.rot (X := T) (Y := [x]) fun t ht y hy e => by
              rw [List.mem_singleton.1 hy] at e
              have := h3 t ht
              rw [e, (cmpL_tot.zero _ _).2 rfl] at this
              omega)
            rw [← List.append_assoc] at e1
            exact e1.trans (h2.append (StS.refl [x]))
        have HF := Lib.hid fin
        clear fin
        rcases List.eq_nil_or_concat S1 with hS0 | ⟨S0, s, hS0⟩
        · have hle : ¬ (a : Int) < (j : Int) := by have h1 := hj.out; have h2 := HAB.out; rw [hS0] at h1; simp at h1; omega
          have hd2 : decide (a < j) = false := by simpa using hle
          have hd : decide ((a : Int) < (j : Int)) = false := by simpa using hle
          have hfin := HF.out (.inl (by rw [hS0]; rfl))
          have HFI := Lib.hid hfin
          clear hS0 hfin hle HF
          go_wp2_with (fail)
          go_quiet (fail)
          go_wp2_with (fail)
          go_roundg (M.length - (k + 1))
          case measure => have := hkk.out; have := HK2.out; omega
          case rel =>
            obtain ⟨hg, h1k, hkM, hSl⟩ := hkk.out
            have hkl := HK2.out
            refine ⟨i + 1, k + 1, S1 ++ x :: T, by go_num, ?_, ?_, HFI.out, ?_, ?_⟩
            · show _ = _
              rw [hik.out]; omega
            · show _ ∧ _
              have := hST.out
              simp only [List.length_append, List.length_cons]
              exact ⟨by omega, by omega, by omega, by omega⟩
            · show Sl _ _ _ _ _
              rw [show (S1 ++ x :: T) ++ (M.drop (k + 1) ++ Y) = S1 ++ x :: (T ++ (M.drop (k + 1) ++ Y)) by simp]
              exact hRow1.out.drewN _
            · exact hK1.out.drewN _
        · obtain ⟨p, hp⟩ : ∃ p, X.length + S0.length = p := ⟨_, rfl⟩
          have hj1 : j = p + 1 := by have h1 := hj.out; rw [hS0] at h1; simp at h1; omega
          have hpa : a ≤ p := by have := HAB.out; omega
          have hlen : j < N := by
            have h1 := hj.out; have h2 := HAB.out; have h3 := hST.out; have h4 := hik.out; have h5 := HX.out.2
            omega
          have hatx := at_mid X S1 x (T ++ (M.drop (k + 1) ++ Y))
          rw [← hj.out.1] at hatx
          have hats : (X ++ (S1 ++ x :: (T ++ (M.drop (k + 1) ++ Y))))[p]? = some s := by
            have h := at_mid X S0 s (x :: (T ++ (M.drop (k + 1) ++ Y)))
            rw [hp] at h
            rw [hS0, List.concat_eq_append, List.append_assoc]
            exact h
          have c0 : wr.cell? ⟨g, j * 2, none⟩ = some (.string x.nm) := hRow1.out.cell rfl (plC_0 hatx)
          have c1 : wr.cell? ⟨g, j * 2 + 1, none⟩ = some (.slice x.A x.L.length x.c) := hRow1.out.cell rfl (plC_1 hatx)
          have d0 : wr.cell? ⟨g, p * 2, none⟩ = some (.string s.nm) := hRow1.out.cell rfl (plC_0 hats)
          have d1 : wr.cell? ⟨g, p * 2 + 1, none⟩ = some (.slice s.A s.L.length s.c) := hRow1.out.cell rfl (plC_1 hats)
          have hgl : g < wr.heap.size := hRow1.out.lt g rfl
          have hPl : PlOk wr g (X ++ (M ++ Y)) := HS.out.2.1.keep hK1.out
          have hxm : x ∈ X ++ (M ++ Y) := List.mem_append_right _ (List.mem_append_left _ (List.mem_of_getElem? HX.out.1))
          have hsm : s ∈ X ++ (M ++ Y) := by
            have h1 : s ∈ S1 ++ T := by rw [hS0]; simp
            have h2 := hSS1.out.2.1.mem h1
            exact List.mem_append_right _ (List.mem_append_left _ (List.mem_of_mem_take h2))
          have hcall : ∀ W, Below wr.heap.size wr W → Calls Tryz.prog 72 #[.agg #[.string x.nm, .slice x.A x.L.length x.c], .agg #[.string s.nm, .slice s.A s.L.length s.c]] W fun e w' => e = .returned (.int .i64 (cmpL x.L s.L)) ∧ Below W.heap.size W w' := fun W hW =>
            cmpPl_any x s W g (hPl.keep (KeepK.of_below hW fun i hi => hi.1)) hxm hsm
          have HCL := Lib.hid hcall
          have hrefl : Below wr.heap.size wr wr := Below.refl _ _
          have hd1 : decide ((a : Int) < (j : Int)) = true := by simp; omega
          have hd2 : decide (a < j) = true := by simp; omega
          have hwr : IntKind.i64.wrap ((j : Int) - 1) = (p : Int) := by rw [IntKind.wrap_i64]; omega
          have hjN : (j : Int) < (N : Int) := by omega
          have hpN : (p : Int) < (N : Int) := by omega
          have HJ := Lib.hid (And.intro hj1 (And.intro hp (And.intro hS0 hsm)))
          obtain ⟨z, hz⟩ : ∃ z, cmpL x.L s.L = z := ⟨_, rfl⟩
          rw [hz] at HCL
          have HZ := Lib.hid hz
          clear hz hatx hats hPl hxm hsm hcall hS0 hp hj1 hlen hpa
          go_wp2_with (fail)
          go_region_held3 (fun w' => w'.cell? ⟨g, j * 2, none⟩ = some (.string x.nm) ∧ w'.cell? ⟨g, j * 2 + 1, none⟩ = some (.slice x.A x.L.length x.c) ∧ w'.cell? ⟨g, p * 2, none⟩ = some (.string s.nm) ∧ w'.cell? ⟨g, p * 2 + 1, none⟩ = some (.slice s.A s.L.length s.c) ∧ wr.heap.size ≤ w'.heap.size ∧ Below wr.heap.size wr w')
            (first | assumption | exact ⟨c0, c1, d0, d1, Nat.le_refl _, hrefl⟩ | exact k4D (by assumption) | exact k4D ⟨c0, c1, d0, d1, Nat.le_refl _, hrefl⟩ | exact k4C hgl (by assumption) hb | exact k4C hgl (k4D (by assumption)) hb | exact k4C hgl (k4D ⟨c0, c1, d0, d1, Nat.le_refl _, hrefl⟩) hb | exact k4C hgl ⟨c0, c1, d0, d1, Nat.le_refl _, hrefl⟩ hb)
            (first
              | (go_at_call 72; refine (HCL.out _ (l6 (by assumption))).mono ?_; rintro e w' ⟨rfl, hb⟩; have hbs := hb.size))
          have hcc : w'.cell? ⟨g, j * 2, none⟩ = some (.string x.nm) ∧ w'.cell? ⟨g, j * 2 + 1, none⟩ = some (.slice x.A x.L.length x.c) ∧ w'.cell? ⟨g, p * 2, none⟩ = some (.string s.nm) ∧ w'.cell? ⟨g, p * 2 + 1, none⟩ = some (.slice s.A s.L.length s.c) ∧ wr.heap.size ≤ w'.heap.size ∧ Below wr.heap.size wr w' := by assumption
          obtain ⟨c0', c1', d0', d1', hsz', hbf0⟩ := hcc
          have HBF := Lib.hid hbf0
          clear hbf0 c0 c1 d0 d1 hrefl hd1 hd2
          by_cases hz0 : z < 0
          · have hS2 := hRow1.out.below HBF.out (hRow1.out.lt)
            have HS2 := Lib.hid hS2
            have f0 := hS2.free (g := g) rfl (j := j * 2) (by omega)
            have f1 := hS2.free (g := g) rfl (j := j * 2 + 1) (by omega)
            have f2 := hS2.free (g := g) rfl (j := p * 2) (by omega)
            have f3 := hS2.free (g := g) rfl (j := p * 2 + 1) (by omega)
            have n1 : (⟨g, p * 2, none⟩ : Addr) ≠ ⟨g, j * 2, none⟩ := by have := HJ.out.1; intro h; injection h; omega
            have n2 : (⟨g, p * 2, none⟩ : Addr) ≠ ⟨g, j * 2 + 1, none⟩ := by have := HJ.out.1; intro h; injection h; omega
            have n3 : (⟨g, p * 2 + 1, none⟩ : Addr) ≠ ⟨g, j * 2, none⟩ := by have := HJ.out.1; intro h; injection h; omega
            have n4 : (⟨g, p * 2 + 1, none⟩ : Addr) ≠ ⟨g, j * 2 + 1, none⟩ := by have := HJ.out.1; intro h; injection h; omega
            have u0 : ((w'.setCell ⟨g, j * 2, none⟩ (.string s.nm)).setCell ⟨g, j * 2 + 1, none⟩ (.slice s.A s.L.length s.c)).cell? ⟨g, p * 2, none⟩ = some (.string s.nm) := by rw [World.cell?_setCell_other _ _ _ _ n2.symm, World.cell?_setCell_other _ _ _ _ n1.symm]; exact d0'
            have u1 : ((w'.setCell ⟨g, j * 2, none⟩ (.string s.nm)).setCell ⟨g, j * 2 + 1, none⟩ (.slice s.A s.L.length s.c)).cell? ⟨g, p * 2 + 1, none⟩ = some (.slice s.A s.L.length s.c) := by rw [World.cell?_setCell_other _ _ _ _ n4.symm, World.cell?_setCell_other _ _ _ _ n3.symm]; exact d1'
            have u2 : (((w'.setCell ⟨g, j * 2, none⟩ (.string s.nm)).setCell ⟨g, j * 2 + 1, none⟩ (.slice s.A s.L.length s.c)).setCell ⟨g, p * 2, none⟩ (.string x.nm)).cell? ⟨g, p * 2 + 1, none⟩ = some (.slice s.A s.L.length s.c) := by rw [World.cell?_setCell_other _ _ _ _ (by intro h; injection h; omega)]; exact u1
            clear hS2
            go_wp2_with (fail)
            go_region
            clear hwr u0 u1 u2 n1 n2 n3 n4
            go_wp2_with (fail)
            obtain ⟨hj1, hp, hS0, hsm⟩ := HJ.out
            go_roundg S0.length
            case measure => have h1 := hj.out.2; rw [hS0] at h1; simp at h1; omega
            case rel =>
              refine ⟨p, S0, s :: T, by congr 1; omega, ⟨hp.symm, rfl⟩, ?_, ⟨?_, ?_, ?_⟩, ?_, ?_⟩
              · show _ = _
                have h1 := hST.out
                rw [hS0] at h1
                simp at h1 ⊢
                omega
              · have h1 := hSS1.out.1
                rw [hS0] at h1
                simpa using h1
              · have h1 := hSS1.out.2.1
                rw [hS0] at h1
                simpa using h1
              · intro t ht
                rcases List.mem_cons.1 ht with rfl | ht
                · rw [HZ.out]; exact hz0
                · exact hSS1.out.2.2 t ht
              · show Sl _ _ _ _ _
                have e1 : X ++ (S1 ++ x :: (T ++ (M.drop (k + 1) ++ Y))) = X ++ (S0 ++ s :: x :: (T ++ (M.drop (k + 1) ++ Y))) := by rw [hS0]; simp
                have h1 := HS2.out
                rw [e1] at h1
                have h2 := (((h1.set_ (g := g) rfl (j * 2) (.string s.nm) (by omega)).set_ (g := g) rfl (j * 2 + 1) s.s (by omega)).set_ (g := g) rfl (p * 2) (.string x.nm) (by omega)).set_ (g := g) rfl (p * 2 + 1) x.s (by omega)
                rw [← plC_set, ← plC_set, hj1, ← hp, swap_mid X S0 x s] at h2
                rw [hj1, ← hp]
                exact h2.drew
              · exact ((((((hK1.out.trans (KeepK.of_below HBF.out fun i hi => Nat.lt_of_lt_of_le hi.1 hK1.out.size)).setCell (p := ⟨g, j * 2, none⟩) (fun i hi => hi.2) _).setCell (p := ⟨g, j * 2 + 1, none⟩) (fun i hi => hi.2) _).setCell (p := ⟨g, p * 2, none⟩) (fun i hi => hi.2) _).setCell (p := ⟨g, p * 2 + 1, none⟩) (fun i hi => hi.2) _)).drew
          · have hfin := HF.out (.inr ⟨s, by rw [HJ.out.2.2.1]; simp, by rw [HZ.out]; omega⟩)
            have HFI := Lib.hid hfin
            clear hfin HF
            go_wp2_with (fail)
            have hbf := HBF.out
            go_roundg (M.length - (k + 1))
            case measure => have := hkk.out; have := HK2.out; omega
            case rel =>
              obtain ⟨hg, h1k, hkM, hSl⟩ := hkk.out
              have hkl := HK2.out
              refine ⟨i + 1, k + 1, S1 ++ x :: T, by go_num, ?_, ?_, HFI.out, ?_, ?_⟩
              · show _ = _
                rw [hik.out]; omega
              · show _ ∧ _
                have := hST.out
                simp only [List.length_append, List.length_cons]
                exact ⟨by omega, by omega, by omega, by omega⟩
              · show Sl _ _ _ _ _
                rw [show (S1 ++ x :: T) ++ (M.drop (k + 1) ++ Y) = S1 ++ x :: (T ++ (M.drop (k + 1) ++ Y)) by simp]
                exact hRow1.out.below hbf (hRow1.out.lt)
              · exact hK1.out.trans (KeepK.of_below hbf fun i hi => Nat.lt_of_lt_of_le hi.1 hK1.out.size)

    · have hltI : ¬ (i : Int) < (b : Int) := by omega
      have hkM : k = M.length := by have := hik.out; have := hkk.out; have := HAB.out; omega
      have HKM := Lib.hid hkM
      clear hkM hlt
      go_wp2_with (fail)
      refine bodyPost_end (results_none rfl _ _ _) rfl ?_
      obtain ⟨h1, h2⟩ := hSS.out
      have h3 := hRow.out
      rw [HKM.out, List.take_length] at h2
      rw [HKM.out, List.drop_length, List.nil_append] at h3
      have h4 : (X ++ (S ++ Y)).length = N := by
        have h5 := HAB.out.2.2
        have h6 := h2.len
        simp
        omega
      exact ⟨rfl, S, h1, h2, by rw [h4]; exact h3, hK.out⟩
end Go.Proofs.YthnngndnpigjbaaGreat

namespace Go.Proofs.YthnngndnpigjbaaGreat
open Go.RowKit Go.Lib

/-- What a stable sort leaves. -/
def StabPost (g c : Nat) (P : List Pl) (w : World) (e : Ending) (w' : World) : Prop :=
  e = .returned (.tuple #[]) ∧ ∃ P', SrtK Pl.L cmpL P' ∧ StS Pl.L P' P ∧ Sl w' 2 (.slice (some ⟨g, 0, none⟩) P.length c) P.length (plC P') ∧ KeepK (fun i => i < w.heap.size ∧ i ≠ g) w w'
/-- The sort does what it must at up to m places. -/
def StableOk (m : Nat) : Prop := ∀ (g c : Nat) (P : List Pl) (w : World), Sl w 2 (.slice (some ⟨g, 0, none⟩) P.length c) P.length (plC P) → PlOk w g P → P.length ≤ m →
  Calls Tryz.prog 86 #[.slice (some ⟨g, 0, none⟩) P.length c, .int .i64 (P.length : Int), .func (.func 72) #[] #[]] w (StabPost g c P w)

set_option maxRecDepth 100000 in
set_option maxHeartbeats 2000000 in
theorem stable_few : StableOk 19 := by
  intro g c P w hS hP hn
  have h1 := insSort_any g c 0 P.length [] P [] w (by simpa using hS) (by simpa using hP) (by simp; omega) rfl (by simp)
  simp only [List.nil_append, List.append_nil] at h1
  have hnI : (P.length : Int) ≤ 19 := by omega
  have hn0 : ¬ 20 ≤ (P.length : Int) := by omega
  have hn1 : ¬ 20 < (P.length : Int) := by omega
  have H1 := Lib.hid h1
  clear h1 hS hP
  go_enter Tryz.func86, Tryz.ntmps86
  go_wp2_with (fail)
  go_loopg [7, 8] 0 (fun _ v7 v8 wr => v7 = .int .i64 0 ∧ v8 = .int .i64 20 ∧ wr = w)
  case atStart => exact ⟨rfl, rfl, rfl⟩
  case round =>
    obtain ⟨rfl, rfl, rfl⟩ := hrel
    go_wp2_with (fail)
    refine H1.out.mono ?_
    rintro e w1 ⟨rfl, P', hp1, hp2, hp3, hp4⟩
    simp only [List.nil_append, List.append_nil] at hp3
    have hl := hp2.len
    rw [hl] at hp3
    have HP := Lib.hid (And.intro hp1 (And.intro hp2 (And.intro hp3 hp4)))
    clear hp1 hp2 hp3 hp4 hl
    go_wp2_with (fail)
    go_loopg [6, 7, 8, 9] 0 (fun _ v6 _ _ _ wr => v6 = .int .i64 20 ∧ wr = w1)
    case atStart => exact ⟨rfl, rfl⟩
    case round =>
      obtain ⟨rfl, rfl⟩ := hrel
      go_wp2_with (fail)
      refine bodyPost_end (results_none rfl _ _ _) rfl ?_
      exact ⟨rfl, P', HP.out.1, HP.out.2.1, HP.out.2.2.1, HP.out.2.2.2⟩

set_option maxRecDepth 100000 in
theorem sortStable_any {m : Nat} (hm : StableOk m) (g c : Nat) (P : List Pl) (w : World) (hS : Sl w 2 (.slice (some ⟨g, 0, none⟩) P.length c) P.length (plC P)) (hP : PlOk w g P) (hn : P.length ≤ m) (hb : P.length ≤ 1000000) :
    Calls Tryz.prog 71 #[.slice (some ⟨g, 0, none⟩) P.length c, .func (.func 72) #[] #[]] w (StabPost g c P w) := by
  have H := Lib.hid (hm g c P w hS hP hn)
  have hnI : (P.length : Int) ≤ 1000000 := by omega
  clear hS hP hn hb hm
  go_enter Tryz.func71, Tryz.ntmps71
  go_wp2_with (fail)
  refine H.out.mono ?_
  rintro e w1 ⟨rfl, P', hp1, hp2, hp3, hp4⟩
  have HP := Lib.hid (And.intro hp1 (And.intro hp2 (And.intro hp3 hp4)))
  clear hp1 hp2 hp3 hp4
  go_wp2_with (fail)
  refine bodyPost_end (results_none rfl _ _ _) rfl ?_
  exact ⟨rfl, P', HP.out.1, HP.out.2.1, HP.out.2.2.1, HP.out.2.2.2⟩
end Go.Proofs.YthnngndnpigjbaaGreat
