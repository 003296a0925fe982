/- Rows of numbers that stand for texts: the comparison of sets.build, and its keys. Conditions: none. The walks of slices.insertionSortCmpFunc, slices.stableCmpFunc (at fewer than 20) and slices.SortStableFunc at numbers that stand for texts. Conditions: none. The walk of slices.CompactFunc at numbers that stand for texts. Conditions: none. -/
import Derived.Test.YthnngndnpigjbaaGreatSetsM
import Derived.Test.YthnngndnpigjbaaGreatSTab
import Derived.Test.YthnngndnpigjbaaGreatOrd
import Derived.Test.YthnngndnpigjbaaGreatQLow
import Derived.Test.YthnngndnpigjbaaGreatRes
import Derived.Deep.QuietTactic
import Derived.BigQuiet
import Derived.BigRegion
import Derived.IntWalk
import Derived.Deep.LoopGhost
namespace Go.Proofs.YthnngndnpigjbaaGreat
open Go.RowKit Go.Lib Go.Shelf

theorem cmpB_eq : ∀ a b : Bs, Lib.compareBytes a b = cmpS a b
  | [], [] => by simp [Lib.compareBytes, cmpS, ltS, Op.bytesLess]
  | [], _ :: _ => by simp [Lib.compareBytes, cmpS, ltS, Op.bytesLess]
  | _ :: _, [] => by simp [Lib.compareBytes, cmpS, ltS, Op.bytesLess]
  | a :: t, b :: u => by
    have ih := cmpB_eq t u
    unfold cmpS at ih ⊢
    simp only [ltS, Op.bytesLess] at ih ⊢
    unfold Lib.compareBytes
    by_cases h1 : a < b
    · simp [h1]
    · by_cases h2 : b < a
      · have h3 : a ≠ b := fun e => by subst e; exact h1 h2
        simp [h1, h2, h3]
      · have h3 : a = b := UInt8.le_antisymm (UInt8.not_lt.1 h2) (UInt8.not_lt.1 h1)
        subst h3
        simp [h1, ih]
def ixC (P : List Nat) : List Value := P.map fun i : Nat => .int .i64 (i : Int)
theorem ixC_append (a b : List Nat) : ixC (a ++ b) = ixC a ++ ixC b := by simp [ixC]
theorem ixC_at {P : List Nat} {j x : Nat} (h : P[j]? = some x) : (ixC P)[j]? = some (.int .i64 (x : Int)) := by unfold ixC; rw [List.getElem?_map, h]; rfl
theorem ixC_set (P : List Nat) (i x : Nat) : ixC (P.set i x) = (ixC P).set i (.int .i64 (x : Int)) := by unfold ixC; rw [List.map_set]
theorem ixC_len (P : List Nat) : (ixC P).length = P.length := by simp [ixC]
/-- What a number stands for. -/
def keyF (fs : List ByteArray) (i : Nat) : Bs := (fs.getD i ⟨#[]⟩).data.toList
structure KeyOk (w : World) (g Bf : Nat) (Af : Option Addr) (cf : Nat) (fs : List ByteArray) : Prop where
  bx : Blk w Bf 34 #[.slice Af fs.length cf]
  tb : STab w Af fs
  ne : Bf ≠ g
  na : ∀ a, Af = some a → a.block ≠ g
theorem KeyOk.keep {w w' : World} {g Bf : Nat} {Af : Option Addr} {cf : Nat} {fs : List ByteArray} (h : KeyOk w g Bf Af cf fs) (hk : KeepK (fun i => i < w.heap.size ∧ i ≠ g) w w') : KeyOk w' g Bf Af cf fs := by
  refine ⟨h.bx.keepK hk ⟨h.bx.lt, h.ne⟩, h.tb.keep hk.size fun hp a ha => hk.block a.block ⟨?_, h.na a ha⟩, h.ne, h.na⟩
  obtain ⟨b', off', hA', hlt', _⟩ := h.tb (by simpa using hp)
  rw [ha] at hA'
  injection hA' with hA'
  rw [hA']
  exact hlt'
theorem KeyOk.low {w w' : World} {g Bf : Nat} {Af : Option Addr} {cf : Nat} {fs : List ByteArray} (h : KeyOk w g Bf Af cf fs) (hb : Below w.heap.size w w') : KeyOk w' g Bf Af cf fs := h.keep (KeepK.of_below hb fun i hi => hi.1)
theorem key_at {fs : List ByteArray} {i : Nat} {x : ByteArray} (h : fs[i]? = some x) : keyF fs i = x.data.toList := by unfold keyF; rw [List.getD_eq_getElem?_getD, h]; rfl
theorem strCmp_any (a b : ByteArray) (w : World) : Calls Tryz.prog 57 #[.string a, .string b] w fun e w' => e = .returned (.int .i64 (cmpS a.data.toList b.data.toList)) ∧ Below w.heap.size w w' :=
  (Any.strings_Compare Tryz.cmpLays a b w).mono fun e w' ⟨h1, h2⟩ => ⟨by rw [h1, cmpB_eq], h2 ▸ Below.refl _ _⟩
set_option maxRecDepth 100000 in
set_option maxHeartbeats 4000000 in
theorem rise_any {w : World} {g Bf : Nat} {Af : Option Addr} {cf : Nat} {fs : List ByteArray} (h : KeyOk w g Bf Af cf fs) (hl : fs.length ≤ 1000000) (i j : Nat) (hi : i < fs.length) (hj : j < fs.length) :
    Calls Tryz.prog 56 #[.int .i64 (i : Int), .int .i64 (j : Int), .pointer (some ⟨Bf, 0, none⟩)] w fun e w' => e = .returned (.int .i64 (cmpS (keyF fs i) (keyF fs j))) ∧ Below w.heap.size w w' := by
  obtain ⟨x, hx⟩ : ∃ x, fs[i]? = some x := ⟨_, List.getElem?_eq_getElem hi⟩
  obtain ⟨y, hy⟩ : ∃ y, fs[j]? = some y := ⟨_, List.getElem?_eq_getElem hj⟩
  rw [key_at hx, key_at hy]
  obtain ⟨b, off, rfl, hbl, hcl⟩ := h.tb (by simpa using (show 0 < fs.length by omega))
  have cx := hcl i _ (by rw [List.getElem?_map, hx]; rfl)
  have cy := hcl j _ (by rw [List.getElem?_map, hy]; rfl)
  have b0 : ∀ p : BelowOf w, p.X.cell? ⟨Bf, 0, none⟩ = some (.slice (some ⟨b, off, none⟩) fs.length cf) := fun p => (h.bx.low p).cell 0
  have bx : ∀ p : BelowOf w, p.X.cell? ⟨b, off + i, none⟩ = some (.string x) := fun p => p.cell (a := ⟨b, off + i, none⟩) hbl cx
  have by_ : ∀ p : BelowOf w, p.X.cell? ⟨b, off + j, none⟩ = some (.string y) := fun p => p.cell (a := ⟨b, off + j, none⟩) hbl cy
  have HS := Lib.hid (fun W => strCmp_any x y W)
  have hiI : (i : Int) < (fs.length : Int) := by omega
  have hjI : (j : Int) < (fs.length : Int) := by omega
  have hlI : (fs.length : Int) ≤ 1000000 := by omega
  obtain ⟨z, hz⟩ : ∃ z, cmpS x.data.toList y.data.toList = z := ⟨_, rfl⟩
  rw [hz] at HS ⊢
  clear hx hy cx cy hcl hi hj h hz hl
  go_enter Tryz.func56, Tryz.ntmps56
  go_wp2_with (fail)
  refine wp_region_low (by kernel_rfl) (by kernel_rfl) ?_
  repeat (refine low_step (fun K hK => ?_); go_simp; first | (refine hK _ ?_; clear hK K) | (apply Exists.intro; refine ⟨fun _ => ?_, hK _ ?_⟩; (first | (go_at_call 57; exact calls_low (HS.out _))); clear hK K))
  refine low_nil ?_
  rintro ⟨W5, hb5⟩
  dsimp only
  clear b0 bx by_
  go_wp2_with (fail)
  go_ret
  exact ⟨rfl, hb5⟩
end Go.Proofs.YthnngndnpigjbaaGreat

namespace Go.Proofs.YthnngndnpigjbaaGreat
open Go.RowKit Go.Lib

structure IxOk (w : World) (g Bf : Nat) (Af : Option Addr) (cf : Nat) (fs : List ByteArray) (P : List Nat) : Prop where
  key : KeyOk w g Bf Af cf fs
  lt : ∀ p ∈ P, p < fs.length
  ln : fs.length ≤ 1000000
theorem IxOk.keep {w w' : World} {g Bf : Nat} {Af : Option Addr} {cf : Nat} {fs : List ByteArray} {P : List Nat} (h : IxOk w g Bf Af cf fs P) (hk : KeepK (fun i => i < w.heap.size ∧ i ≠ g) w w') : IxOk w' g Bf Af cf fs P := ⟨h.key.keep hk, h.lt, h.ln⟩
theorem IxOk.mem {w : World} {g Bf : Nat} {Af : Option Addr} {cf : Nat} {fs : List ByteArray} {P Q : List Nat} (h : IxOk w g Bf Af cf fs P) (hq : ∀ q ∈ Q, q ∈ P) : IxOk w g Bf Af cf fs Q := ⟨h.key, fun q hm => h.lt q (hq q hm), h.ln⟩
/-- What a row of numbers holds when a part of it was put in order. -/
def InsQ (fs : List ByteArray) (g c : Nat) (X M Y : List Nat) (w : World) (e : Ending) (w' : World) : Prop :=
  e = .returned (.tuple #[]) ∧ ∃ M', SrtK (keyF fs) cmpS M' ∧ StS (keyF fs) M' M ∧ Sl w' 1 (.slice (some ⟨g, 0, none⟩) (X ++ (M' ++ Y)).length c) (X ++ (M' ++ Y)).length (ixC (X ++ (M' ++ Y))) ∧ KeepK (fun i => i < w.heap.size ∧ i ≠ g) w w'
section
variable {α : Type}
theorem atMid (X S : List α) (x : α) (Z : List α) : (X ++ (S ++ x :: Z))[X.length + S.length]? = some x := by simp
theorem swapMid (X S : List α) (x s : α) (Z : List α) : ((X ++ (S ++ s :: x :: Z)).set (X.length + S.length + 1) s).set (X.length + S.length) x = X ++ (S ++ x :: s :: Z) := by
  have e1 : X.length + S.length + 1 - X.length - S.length = 1 := by omega
  have e2 : X.length + S.length - X.length - S.length = 0 := by omega
  rw [List.set_append_right _ _ (by omega), List.set_append_right _ _ (by omega), List.set_append_right _ _ (by omega), List.set_append_right _ _ (by omega), e1, e2]
  rfl
end
set_option maxRecDepth 100000 in
set_option maxHeartbeats 4000000 in
theorem insSortI_any (fs : List ByteArray) (Af : Option Addr) (cf Bf g c a b : Nat) (X M Y : List Nat) (w : World) (hS : Sl w 1 (.slice (some ⟨g, 0, none⟩) (X ++ (M ++ Y)).length c) (X ++ (M ++ Y)).length (ixC (X ++ (M ++ Y)))) (hP : IxOk w g Bf Af cf fs (X ++ (M ++ Y))) (hn : (X ++ (M ++ Y)).length ≤ 1000000)
    (ha : a = X.length) (hb : b = X.length + M.length) :
    Calls Tryz.prog 91 #[.slice (some ⟨g, 0, none⟩) (X ++ (M ++ Y)).length c, .int .i64 (a : Int), .int .i64 (b : Int), .func (.func 56) #[] #[.pointer (some ⟨Bf, 0, none⟩)]] w (InsQ fs g c X M Y w) := by
  obtain ⟨N, hN⟩ : ∃ N, (X ++ (M ++ Y)).length = N := ⟨_, rfl⟩
  have hN3 : N = X.length + (M.length + Y.length) := by rw [← hN]; simp
  have hNI : (N : Int) ≤ 1000000 := by omega
  have haI : (a : Int) ≤ 1000000 := by omega
  have hbI : (b : Int) ≤ 1000000 := by omega
  have HS := Lib.hid (And.intro hS (And.intro hP (And.intro hN hn)))
  have HAB := Lib.hid (And.intro ha (And.intro hb hN3))
  rw [hN]
  clear hS hP hn hN ha hb hN3
  go_enter Tryz.func91, Tryz.ntmps91
  go_wp2_with (fail)
  by_cases hM : M.length = 0
  · have hge : ¬ (a : Int) + 1 < (b : Int) := by have := HAB.out; omega
    have hM0 : M = [] := List.eq_nil_of_length_eq_zero hM
    clear hM
    go_loopg [8] 0 (fun _ v8 wr => v8 = .int .i64 ((a : Int) + 1) ∧ wr = w)
    case atStart => exact ⟨rfl, rfl⟩
    case round =>
      obtain ⟨rfl, rfl⟩ := hrel
      have HM := Lib.hid hM0
      clear hM0
      go_wp2_with (fail)
      refine bodyPost_end (results_none rfl _ _ _) rfl ?_
      obtain ⟨hS, hP, hN, hn⟩ := HS.out
      refine ⟨rfl, [], List.Pairwise.nil, by rw [HM.out]; exact StS.refl _, ?_, KeepK.refl _ _⟩
      rw [HM.out] at hS
      exact hS
  have hM1 : 1 ≤ M.length := by omega
  clear hM
  go_loopg [8, 9] (M.length - 1) (fun gg v8 _ wr => ∃ (i k : Nat) (S : List Nat), v8 = .int .i64 (i : Int) ∧ Aside (i = X.length + k) ∧ Aside (gg + k = M.length ∧ 1 ≤ k ∧ k ≤ M.length ∧ S.length = k) ∧ Aside (SrtK (keyF fs) cmpS S ∧ StS (keyF fs) S (M.take k)) ∧ Aside (Sl wr 1 (.slice (some ⟨g, 0, none⟩) N c) N (ixC (X ++ (S ++ (M.drop k ++ Y))))) ∧ Aside (KeepK (fun i => i < w.heap.size ∧ i ≠ g) w wr))
  case atStart =>
    refine ⟨a + 1, 1, M.take 1, by congr 1, ?_, ?_, ?_, ?_, KeepK.refl _ _⟩
    · show _ = _
      rw [HAB.out.1]
    · show _ ∧ _
      rw [List.length_take]
      exact ⟨by omega, by omega, by omega, by omega⟩
    · refine ⟨?_, StS.refl _⟩
      obtain ⟨m, M', rfl⟩ : ∃ m M', M = m :: M' := by
        cases M with
        | nil => simp at hM1
        | cons m M' => exact ⟨m, M', rfl⟩
      exact List.pairwise_singleton _ _
    · obtain ⟨hS, hP, hN, hn⟩ := HS.out
      rw [hN] at hS
      show Sl _ _ _ _ _
      rw [← List.append_assoc (M.take 1), List.take_append_drop]
      exact hS
  case round =>
    obtain ⟨i, k, S, rfl, hik, hkk, hSS, hRow, hK⟩ := hrel
    have hiI : (i : Int) ≤ 1000000 := by have := hik.out; have := hkk.out; have := HAB.out; omega
    by_cases hlt : i < b
    · have hltI : (i : Int) < (b : Int) := by omega
      obtain ⟨x, hx⟩ : ∃ x, M[k]? = some x := ⟨_, List.getElem?_eq_getElem (by have := hik.out; have := HAB.out; omega)⟩
      have HX := Lib.hid (And.intro hx hlt)
      clear hx hlt
      go_wp2_with (fail)
      go_loopg [9] k (fun gi v9 wi => ∃ (j : Nat) (S1 T : List Nat), v9 = .int .i64 (j : Int) ∧ Aside (j = X.length + S1.length ∧ gi = S1.length) ∧ Aside (S1.length + T.length = k) ∧ Aside (SrtK (keyF fs) cmpS (S1 ++ T) ∧ StS (keyF fs) (S1 ++ T) (M.take k) ∧ ∀ t ∈ T, cmpS (keyF fs x) (keyF fs t) < 0) ∧ Aside (Sl wi 1 (.slice (some ⟨g, 0, none⟩) N c) N (ixC (X ++ (S1 ++ x :: (T ++ (M.drop (k + 1) ++ Y)))))) ∧ Aside (KeepK (fun i => i < w.heap.size ∧ i ≠ g) w wi))
      case atStart =>
        obtain ⟨hg, h1k, hkM, hSl⟩ := hkk.out
        refine ⟨i, S, [], rfl, ⟨by rw [hSl]; exact hik.out, hSl.symm⟩, ?_, ⟨by rw [List.append_nil]; exact hSS.out.1, by rw [List.append_nil]; exact hSS.out.2, fun t ht => absurd ht List.not_mem_nil⟩, ?_, hK.out⟩
        · show S.length + 0 = k
          exact hSl
        · have h := hRow.out
          obtain ⟨h1, h2⟩ := List.getElem?_eq_some_iff.1 HX.out.1
          rw [List.drop_eq_getElem_cons h1, h2] at h
          exact h
      case round =>
        obtain ⟨j, S1, T, rfl, hj, hST, hSS1, hRow1, hK1⟩ := hrel
        clear hRow hK hSS
        have HK2 : Hid (k + 1 ≤ M.length) := Lib.hid (by have := (List.getElem?_eq_some_iff.1 HX.out.1).1; omega)
        have hjI : (j : Int) ≤ 1000000 := by have := hj.out; have := hST.out; have := hkk.out; have := HAB.out; omega
        have fin : (S1.getLast? = none ∨ ∃ s, S1.getLast? = some s ∧ ¬ cmpS (keyF fs x) (keyF fs s) < 0) → SrtK (keyF fs) cmpS (S1 ++ x :: T) ∧ StS (keyF fs) (S1 ++ x :: T) (M.take (k + 1)) := fun hl => by
          obtain ⟨h1, h2, h3⟩ := hSS1.out
          refine ⟨SrtK.ins cmpS_tot h1 h3 fun s hs => ?_, ?_⟩
          · rcases hl with h | ⟨s', h, h'⟩
            · rw [h] at hs; cases hs
            · rw [h] at hs; cases hs; exact h'
          · obtain ⟨q1, q2⟩ := List.getElem?_eq_some_iff.1 HX.out.1
            rw [List.take_succ_eq_append_getElem q1, q2]
            have e1 : StS (keyF fs) (S1 ++ x :: T) (S1 ++ (T ++ [x])) := (StS.refl S1).append (StS.rot (X := T) (Y := [x]) fun t ht y hy e => by
              rw [List.mem_singleton.1 hy] at e
              have := h3 t ht
              rw [e, (cmpS_tot.zero _ _).2 rfl] at this
              omega)
            rw [← List.append_assoc] at e1
            exact e1.trans (h2.append (StS.refl [x]))
        have HF := Lib.hid fin
        clear fin
        rcases List.eq_nil_or_concat S1 with hS0 | ⟨S0, s, hS0⟩
        · have hle : ¬ (a : Int) < (j : Int) := by have h1 := hj.out; have h2 := HAB.out; rw [hS0] at h1; simp at h1; omega
          have hd2 : decide (a < j) = false := by simpa using hle
          have hd : decide ((a : Int) < (j : Int)) = false := by simpa using hle
          have hfin := HF.out (.inl (by rw [hS0]; rfl))
          have HFI := Lib.hid hfin
          clear hS0 hfin hle HF
          go_wp2_with (fail)
          go_quiet (fail)
          go_wp2_with (fail)
          go_roundg (M.length - (k + 1))
          case measure => have := hkk.out; have := HK2.out; omega
          case rel =>
            obtain ⟨hg, h1k, hkM, hSl⟩ := hkk.out
            have hkl := HK2.out
            refine ⟨i + 1, k + 1, S1 ++ x :: T, by go_num, ?_, ?_, HFI.out, ?_, ?_⟩
            · show _ = _
              rw [hik.out]; omega
            · show _ ∧ _
              have := hST.out
              simp only [List.length_append, List.length_cons]
              exact ⟨by omega, by omega, by omega, by omega⟩
            · show Sl _ _ _ _ _
              rw [show (S1 ++ x :: T) ++ (M.drop (k + 1) ++ Y) = S1 ++ x :: (T ++ (M.drop (k + 1) ++ Y)) by simp]
              exact hRow1.out.drewN _
            · exact hK1.out.drewN _
        · obtain ⟨p, hp⟩ : ∃ p, X.length + S0.length = p := ⟨_, rfl⟩
          have hj1 : j = p + 1 := by have h1 := hj.out; rw [hS0] at h1; simp at h1; omega
          have hpa : a ≤ p := by have := HAB.out; omega
          have hlen : j < N := by
            have h1 := hj.out; have h2 := HAB.out; have h3 := hST.out; have h4 := hik.out; have h5 := HX.out.2
            omega
          have hatx := atMid X S1 x (T ++ (M.drop (k + 1) ++ Y))
          rw [← hj.out.1] at hatx
          have hats : (X ++ (S1 ++ x :: (T ++ (M.drop (k + 1) ++ Y))))[p]? = some s := by
            have h := atMid X S0 s (x :: (T ++ (M.drop (k + 1) ++ Y)))
            rw [hp] at h
            rw [hS0, List.concat_eq_append, List.append_assoc]
            exact h
          have c0' : wr.cell? ⟨g, j, none⟩ = some (.int .i64 (x : Int)) := hRow1.out.cell rfl (ixC_at hatx)
          have d0' : wr.cell? ⟨g, p, none⟩ = some (.int .i64 (s : Int)) := hRow1.out.cell rfl (ixC_at hats)
          have hgl : g < wr.heap.size := hRow1.out.lt g rfl
          have c0 : ∀ q : BelowOf wr, q.X.cell? ⟨g, j, none⟩ = some (.int .i64 (x : Int)) := fun q => q.cell (a := ⟨g, j, none⟩) hgl c0'
          have d0 : ∀ q : BelowOf wr, q.X.cell? ⟨g, p, none⟩ = some (.int .i64 (s : Int)) := fun q => q.cell (a := ⟨g, p, none⟩) hgl d0'
          have hPl : IxOk wr g Bf Af cf fs (X ++ (M ++ Y)) := HS.out.2.1.keep hK1.out
          have hxm : x ∈ X ++ (M ++ Y) := List.mem_append_right _ (List.mem_append_left _ (List.mem_of_getElem? HX.out.1))
          have hsm : s ∈ X ++ (M ++ Y) := by
            have h1 : s ∈ S1 ++ T := by rw [hS0]; simp
            have h2 := hSS1.out.2.1.mem h1
            exact List.mem_append_right _ (List.mem_append_left _ (List.mem_of_mem_take h2))
          have HCL := Lib.hid (fun W (hW : Below wr.heap.size wr W) => rise_any (hPl.key.low hW) hPl.ln x s (hPl.lt x hxm) (hPl.lt s hsm))
          have hd1 : decide ((a : Int) < (j : Int)) = true := by simp; omega
          have hd2 : decide (a < j) = true := by simp; omega
          have hwr : IntKind.i64.wrap ((j : Int) - 1) = (p : Int) := by rw [IntKind.wrap_i64]; omega
          have hjN : (j : Int) < (N : Int) := by omega
          have hpN : (p : Int) < (N : Int) := by omega
          have HJ := Lib.hid (And.intro hj1 (And.intro hp (And.intro hS0 hsm)))
          obtain ⟨z, hz⟩ : ∃ z, cmpS (keyF fs x) (keyF fs s) = z := ⟨_, rfl⟩
          rw [hz] at HCL
          have HZ := Lib.hid hz
          clear hz hatx hats hPl hxm hsm hS0 hp hj1 hlen hpa c0' d0'
          by_cases hz0 : z < 0
          · have hzd : decide (z < 0) = true := by simpa using hz0
            go_wp2_with (fail)
            refine wp_region_low (by kernel_rfl) (by kernel_rfl) ?_
            repeat (refine low_step (fun K hK => ?_); go_simp; first | (refine hK _ ?_; clear hK K) | (apply Exists.intro; refine ⟨fun q => ?_, hK _ ?_⟩; (first | (go_at_call 56; exact calls_low (HCL.out _ q.h))); clear hK K))
            refine low_nil ?_
            rintro ⟨W5, hb5⟩
            dsimp only
            have c1 : W5.cell? ⟨g, j, none⟩ = some (.int .i64 (x : Int)) := c0 ⟨W5, hb5⟩
            have d1 : W5.cell? ⟨g, p, none⟩ = some (.int .i64 (s : Int)) := d0 ⟨W5, hb5⟩
            have hS2 := hRow1.out.below hb5 (hRow1.out.lt)
            have HS2 := Lib.hid (And.intro hS2 hb5)
            have f0 := hS2.free (g := g) rfl (j := j) (by omega)
            have f2 := hS2.free (g := g) rfl (j := p) (by omega)
            have n1 : (⟨g, p, none⟩ : Addr) ≠ ⟨g, j, none⟩ := by have := HJ.out.1; intro h; injection h; omega
            have u0 : (W5.setCell ⟨g, j, none⟩ (.int .i64 (s : Int))).cell? ⟨g, p, none⟩ = some (.int .i64 (s : Int)) := by rw [World.cell?_setCell_other _ _ _ _ n1.symm]; exact d1
            clear hS2 hb5 c0 d0 hd1 hd2 hzd
            go_wp2_with (fail)
            go_region
            clear hwr u0 n1
            go_wp2_with (fail)
            obtain ⟨hj1, hp, hS0, hsm⟩ := HJ.out
            go_roundg S0.length
            case measure => have h1 := hj.out.2; rw [hS0] at h1; simp at h1; omega
            case rel =>
              refine ⟨p, S0, s :: T, by congr 1; omega, ⟨hp.symm, rfl⟩, ?_, ⟨?_, ?_, ?_⟩, ?_, ?_⟩
              · show _ = _
                have h1 := hST.out
                rw [hS0] at h1
                simp at h1 ⊢
                omega
              · have h1 := hSS1.out.1
                rw [hS0] at h1
                simpa using h1
              · have h1 := hSS1.out.2.1
                rw [hS0] at h1
                simpa using h1
              · intro t ht
                rcases List.mem_cons.1 ht with rfl | ht
                · rw [HZ.out]; exact hz0
                · exact hSS1.out.2.2 t ht
              · show Sl _ _ _ _ _
                have e1 : X ++ (S1 ++ x :: (T ++ (M.drop (k + 1) ++ Y))) = X ++ (S0 ++ s :: x :: (T ++ (M.drop (k + 1) ++ Y))) := by rw [hS0]; simp
                have h1 := HS2.out.1
                rw [e1] at h1
                have h2 := (h1.set_ (g := g) rfl j (.int .i64 (s : Int)) (by omega)).set_ (g := g) rfl p (.int .i64 (x : Int)) (by omega)
                rw [← ixC_set, ← ixC_set, hj1, ← hp, swapMid X S0 x s] at h2
                rw [hj1, ← hp]
                exact h2.drew
              · exact (((hK1.out.trans (KeepK.of_below HS2.out.2 fun i hi => Nat.lt_of_lt_of_le hi.1 hK1.out.size)).setCell (p := ⟨g, j, none⟩) (fun i hi => hi.2) _).setCell (p := ⟨g, p, none⟩) (fun i hi => hi.2) _).drew
          · have hzd : decide (z < 0) = false := by simpa using hz0
            go_wp2_with (fail)
            refine wp_region_low (by kernel_rfl) (by kernel_rfl) ?_
            repeat (refine low_step (fun K hK => ?_); go_simp; first | (refine hK _ ?_; clear hK K) | (apply Exists.intro; refine ⟨fun q => ?_, hK _ ?_⟩; (first | (go_at_call 56; exact calls_low (HCL.out _ q.h))); clear hK K))
            refine low_nil ?_
            rintro ⟨W5, hb5⟩
            dsimp only
            have hfin := HF.out (.inr ⟨s, by rw [HJ.out.2.2.1]; simp, by rw [HZ.out]; omega⟩)
            have HFI := Lib.hid (And.intro hfin hb5)
            clear hfin HF hb5 c0 d0 hd1 hd2
            go_wp2_with (fail)
            go_roundg (M.length - (k + 1))
            case measure => have := hkk.out; have := HK2.out; omega
            case rel =>
              obtain ⟨hg, h1k, hkM, hSl⟩ := hkk.out
              have hkl := HK2.out
              have hbf := HFI.out.2
              refine ⟨i + 1, k + 1, S1 ++ x :: T, by go_num, ?_, ?_, HFI.out.1, ?_, ?_⟩
              · show _ = _
                rw [hik.out]; omega
              · show _ ∧ _
                have := hST.out
                simp only [List.length_append, List.length_cons]
                exact ⟨by omega, by omega, by omega, by omega⟩
              · show Sl _ _ _ _ _
                rw [show (S1 ++ x :: T) ++ (M.drop (k + 1) ++ Y) = S1 ++ x :: (T ++ (M.drop (k + 1) ++ Y)) by simp]
                exact hRow1.out.below hbf (hRow1.out.lt)
              · exact hK1.out.trans (KeepK.of_below hbf fun i hi => Nat.lt_of_lt_of_le hi.1 hK1.out.size)
    · have hltI : ¬ (i : Int) < (b : Int) := by omega
      have hkM : k = M.length := by have := hik.out; have := hkk.out; have := HAB.out; omega
      have HKM := Lib.hid hkM
      clear hkM hlt
      go_wp2_with (fail)
      refine bodyPost_end (results_none rfl _ _ _) rfl ?_
      obtain ⟨h1, h2⟩ := hSS.out
      have h3 := hRow.out
      rw [HKM.out, List.take_length] at h2
      rw [HKM.out, List.drop_length, List.nil_append] at h3
      have h4 : (X ++ (S ++ Y)).length = N := by
        have h5 := HAB.out.2.2
        have h6 := h2.len
        simp
        omega
      exact ⟨rfl, S, h1, h2, by rw [h4]; exact h3, hK.out⟩
/-- What a stable sort leaves. -/
def StabQ (fs : List ByteArray) (g c : Nat) (P : List Nat) (w : World) (e : Ending) (w' : World) : Prop :=
  e = .returned (.tuple #[]) ∧ ∃ P', SrtK (keyF fs) cmpS P' ∧ StS (keyF fs) P' P ∧ Sl w' 1 (.slice (some ⟨g, 0, none⟩) P.length c) P.length (ixC P') ∧ KeepK (fun i => i < w.heap.size ∧ i ≠ g) w w'
/-- The sort does what it must at up to m numbers. -/
def StabOkI (m : Nat) : Prop := ∀ (fs : List ByteArray) (Af : Option Addr) (cf Bf g c : Nat) (P : List Nat) (w : World), Sl w 1 (.slice (some ⟨g, 0, none⟩) P.length c) P.length (ixC P) → IxOk w g Bf Af cf fs P → P.length ≤ m →
  Calls Tryz.prog 78 #[.slice (some ⟨g, 0, none⟩) P.length c, .int .i64 (P.length : Int), .func (.func 56) #[] #[.pointer (some ⟨Bf, 0, none⟩)]] w (StabQ fs g c P w)

set_option maxRecDepth 100000 in
set_option maxHeartbeats 2000000 in
theorem stab_fewI : StabOkI 19 := by
  intro fs Af cf Bf g c P w hS hP hn
  have h1 := insSortI_any fs Af cf Bf g c 0 P.length [] P [] w (by simpa using hS) (by simpa using hP) (by simp; omega) rfl (by simp)
  simp only [List.nil_append, List.append_nil] at h1
  have hnI : (P.length : Int) ≤ 19 := by omega
  have hn0 : ¬ 20 ≤ (P.length : Int) := by omega
  have hn1 : ¬ 20 < (P.length : Int) := by omega
  have H1 := Lib.hid h1
  clear h1 hS hP
  go_enter Tryz.func78, Tryz.ntmps78
  go_wp2_with (fail)
  go_loopg [7, 8] 0 (fun _ v7 v8 wr => v7 = .int .i64 0 ∧ v8 = .int .i64 20 ∧ wr = w)
  case atStart => exact ⟨rfl, rfl, rfl⟩
  case round =>
    obtain ⟨rfl, rfl, rfl⟩ := hrel
    go_wp2_with (fail)
    refine H1.out.mono ?_
    rintro e w1 ⟨rfl, P', hp1, hp2, hp3, hp4⟩
    simp only [List.nil_append, List.append_nil] at hp3
    have hl := hp2.len
    rw [hl] at hp3
    have HP := Lib.hid (And.intro hp1 (And.intro hp2 (And.intro hp3 hp4)))
    clear hp1 hp2 hp3 hp4 hl
    go_wp2_with (fail)
    go_loopg [6, 7, 8, 9] 0 (fun _ v6 _ _ _ wr => v6 = .int .i64 20 ∧ wr = w1)
    case atStart => exact ⟨rfl, rfl⟩
    case round =>
      obtain ⟨rfl, rfl⟩ := hrel
      go_wp2_with (fail)
      refine bodyPost_end (results_none rfl _ _ _) rfl ?_
      exact ⟨rfl, P', HP.out.1, HP.out.2.1, HP.out.2.2.1, HP.out.2.2.2⟩

set_option maxRecDepth 100000 in
theorem sortStabI_any {m : Nat} (hm : StabOkI m) (fs : List ByteArray) (Af : Option Addr) (cf Bf g c : Nat) (P : List Nat) (w : World) (hS : Sl w 1 (.slice (some ⟨g, 0, none⟩) P.length c) P.length (ixC P)) (hP : IxOk w g Bf Af cf fs P) (hn : P.length ≤ m) (hb : P.length ≤ 1000000) :
    Calls Tryz.prog 58 #[.slice (some ⟨g, 0, none⟩) P.length c, .func (.func 56) #[] #[.pointer (some ⟨Bf, 0, none⟩)]] w (StabQ fs g c P w) := by
  have H := Lib.hid (hm fs Af cf Bf g c P w hS hP hn)
  have hnI : (P.length : Int) ≤ 1000000 := by omega
  clear hS hP hn hb hm
  go_enter Tryz.func58, Tryz.ntmps58
  go_wp2_with (fail)
  refine H.out.mono ?_
  rintro e w1 ⟨rfl, P', hp1, hp2, hp3, hp4⟩
  have HP := Lib.hid (And.intro hp1 (And.intro hp2 (And.intro hp3 hp4)))
  clear hp1 hp2 hp3 hp4
  go_wp2_with (fail)
  refine bodyPost_end (results_none rfl _ _ _) rfl ?_
  exact ⟨rfl, P', HP.out.1, HP.out.2.1, HP.out.2.2.1, HP.out.2.2.2⟩
end Go.Proofs.YthnngndnpigjbaaGreat

namespace Go.Proofs.YthnngndnpigjbaaGreat
open Go.RowKit Go.Lib

section
variable {α κ : Type} [DecidableEq κ] (key : α → κ)
/-- The first of each run of one key. -/
def ddX : Option κ → List α → List α
  | _, [] => []
  | pv, x :: l => if pv = some (key x) then ddX (some (key x)) l else x :: ddX (some (key x)) l
theorem ddX_snoc (x : α) : ∀ (l : List α) (pv : Option κ), ddX key pv (l ++ [x]) = ddX key pv l ++ (if (match l.getLast? with | some y => some (key y) | none => pv) = some (key x) then [] else [x])
  | [], pv => by
    show ddX key pv [x] = _
    unfold ddX
    split <;> simp [ddX, *]
  | y :: l, pv => by
    have ih := ddX_snoc x l (some (key y))
    have e : (match (y :: l).getLast? with | some z => some (key z) | none => pv) = (match l.getLast? with | some z => some (key z) | none => some (key y)) := by
      cases l with
      | nil => rfl
      | cons z l => rw [List.getLast?_cons_cons]; cases h : (z :: l).getLast? <;> simp_all
    show ddX key pv (y :: (l ++ [x])) = _
    rw [e]
    unfold ddX
    split
    · exact ih
    · rw [ih]; rfl
theorem ddX_step {P : List α} {i : Nat} {x y : α} (hx : P[i]? = some x) (hy : P[i + 1]? = some y) : ddX key none (P.take (i + 2)) = ddX key none (P.take (i + 1)) ++ (if key x = key y then [] else [y]) := by
  have e1 : P.take (i + 2) = P.take (i + 1) ++ [y] := by rw [List.take_add_one, hy]; rfl
  have e2 : (P.take (i + 1)).getLast? = some x := by rw [List.take_add_one, hx]; simp
  rw [e1, ddX_snoc, e2]
  simp
theorem ddX_one {P : List α} {x : α} (hx : P[0]? = some x) : ddX key none (P.take 1) = P.take 1 := by
  have : P.take 1 = [x] := by rw [List.take_add_one, hx]; rfl
  rw [this]
  simp [ddX]
end
set_option maxRecDepth 100000 in
theorem eqI_any {w : World} {g Bq Bf : Nat} {Af : Option Addr} {cf : Nat} {fs : List ByteArray} {P : List Nat} (h : IxOk w g Bf Af cf fs P) (hq : Blk w Bq 115 #[.func (.func 56) #[] #[.pointer (some ⟨Bf, 0, none⟩)]]) (i j : Nat) (hi : i < fs.length) (hj : j < fs.length) :
    Calls Tryz.prog 60 #[.int .i64 (i : Int), .int .i64 (j : Int), .pointer (some ⟨Bq, 0, none⟩)] w fun e w' => e = .returned (.bool (decide (keyF fs i = keyF fs j))) ∧ Below w.heap.size w w' := by
  have HR := Lib.hid (rise_any h.key h.ln i j hi hj)
  have b0 : w.cell? ⟨Bq, 0, none⟩ = some (.func (.func 56) #[] #[.pointer (some ⟨Bf, 0, none⟩)]) := hq.cell 0
  have hz := (cmpS_sign (keyF fs i) (keyF fs j)).2.1
  obtain ⟨z, hzz⟩ : ∃ z, cmpS (keyF fs i) (keyF fs j) = z := ⟨_, rfl⟩
  rw [hzz] at HR hz
  have hd : decide (keyF fs i = keyF fs j) = (z == 0) := by
    by_cases e : keyF fs i = keyF fs j
    · rw [decide_eq_true e, hz.2 e]; rfl
    · have : z ≠ 0 := fun q => e (hz.1 q)
      rw [decide_eq_false e]; exact (beq_eq_false_iff_ne.2 this).symm
  rw [hd]
  clear h hq hi hj hz hzz hd
  go_enter Tryz.func60, Tryz.ntmps60
  go_wp2_with (fail)
  with_reducible refine HR.out.mono ?_
  rintro e w2 ⟨rfl, hb⟩
  have HB := Lib.hid hb
  clear hb
  go_wp2_with (fail)
  go_ret
  exact ⟨rfl, HB.out⟩
def CompQ (fs : List ByteArray) (g c : Nat) (P : List Nat) (w : World) (e : Ending) (w' : World) : Prop :=
  e = .returned (.slice (some ⟨g, 0, none⟩) (ddX (keyF fs) none P).length c) ∧ Sl w' 1 (.slice (some ⟨g, 0, none⟩) (ddX (keyF fs) none P).length c) (ddX (keyF fs) none P).length (ixC (ddX (keyF fs) none P)) ∧ KeepK (fun i => i < w.heap.size ∧ i ≠ g) w w'
set_option maxRecDepth 100000 in
set_option maxHeartbeats 8000000 in
theorem compactI_any (fs : List ByteArray) (Af : Option Addr) (cf Bf Bq g c : Nat) (P : List Nat) (w : World) (hS : Sl w 1 (.slice (some ⟨g, 0, none⟩) P.length c) P.length (ixC P)) (hP : IxOk w g Bf Af cf fs P) (hq : Blk w Bq 115 #[.func (.func 56) #[] #[.pointer (some ⟨Bf, 0, none⟩)]]) (hqg : Bq ≠ g) (hn : P.length ≤ 1000000) (h1 : 1 ≤ P.length) :
    Calls Tryz.prog 59 #[.slice (some ⟨g, 0, none⟩) P.length c, .func (.func 60) #[] #[.pointer (some ⟨Bq, 0, none⟩)]] w (CompQ fs g c P w) := by
  obtain ⟨x0, hx0⟩ : ∃ x, P[0]? = some x := ⟨_, List.getElem?_eq_getElem (by omega)⟩
  have HD1 := Lib.hid (ddX_one (keyF fs) hx0)
  obtain ⟨A', c', hv, hnc, hcm⟩ := hS.shape
  injection hv with hA hN' hc'
  subst hA hc'
  unfold maxLen at hcm
  obtain ⟨N, hN⟩ : ∃ N, P.length = N := ⟨_, rfl⟩
  have HN := Lib.hid hN
  rw [hN] at hS hn h1 hnc ⊢
  have hNI : (N : Int) ≤ 1000000 := by omega
  have hcI : (c : Int) ≤ 9223372036854775807 := by omega
  have hNcI : (N : Int) ≤ (c : Int) := by omega
  have HE := Lib.hid (fun (W : World) (hW : KeepK (fun i => i < w.heap.size ∧ i ≠ g) w W) (X : World) (hX : Below W.heap.size W X) (i j : Nat) (hi : i < fs.length) (hj : j < fs.length) => eqI_any ((hP.keep hW).keep (KeepK.of_below hX fun i hi => hi.1)) ((hq.keepK hW ⟨hq.lt, hqg⟩).below hX (Nat.lt_of_lt_of_le hq.lt hW.size)) i j hi hj)
  have HS := Lib.hid (And.intro hS (And.intro hP (And.intro hn (And.intro h1 hnc))))
  clear hS hP hq hqg hn hN hx0 hN' hcm
  go_enter Tryz.func59, Tryz.ntmps59
  by_cases h2 : N < 2
  · have h2I : (N : Int) < 2 := by omega
    have HR := Lib.hid (show ddX (keyF fs) none P = P from by
      have := HD1.out
      rw [List.take_of_length_le (by have := HN.out; omega)] at this
      exact this)
    clear h2 h1 hnc
    go_wp2_with (fail)
    go_ret
    unfold CompQ
    rw [HR.out, HN.out]
    exact ⟨rfl, HS.out.1, KeepK.refl _ _⟩
  have h2I : ¬ (N : Int) < 2 := by omega
  clear h2 h1 hnc
  go_wp2_with (fail)
  go_loopg [5, 6, 7] (N - 1) (fun gg v5 v6 v7 wr => ∃ k : Nat, v5 = .int .i64 (k : Int) ∧ Aside (gg + k = N ∧ 1 ≤ k) ∧ Aside (ddX (keyF fs) none (P.take k) = P.take k) ∧ Aside (Below w.heap.size w wr))
  case atStart => exact ⟨1, rfl, ⟨by have := HS.out.2.2.2.1; omega, Nat.le_refl _⟩, HD1.out, Below.refl _ _⟩
  case round =>
    obtain ⟨k, rfl, hg, hd, hB⟩ := hrel
    have hkI : (k : Int) ≤ 1000000 := by have := hg.out; have := HS.out.2.2.1; omega
    by_cases hlt : k < N
    · have hltI : (k : Int) < (N : Int) := by omega
      obtain ⟨p, hp⟩ : ∃ p, k = p + 1 := ⟨k - 1, by have := hg.out.2; omega⟩
      obtain ⟨y, hy⟩ : ∃ y, P[p + 1]? = some y := ⟨_, List.getElem?_eq_getElem (by have := HN.out; omega)⟩
      obtain ⟨x, hx⟩ : ∃ x, P[p]? = some x := ⟨_, List.getElem?_eq_getElem (by have := HN.out; omega)⟩
      have hSr := HS.out.1.below hB.out HS.out.1.lt
      have hgl : g < wr.heap.size := hSr.lt g rfl
      have cy0 : wr.cell? ⟨g, k, none⟩ = some (.int .i64 (y : Int)) := by rw [hp]; exact hSr.cell rfl (ixC_at hy)
      have cx0 : wr.cell? ⟨g, p, none⟩ = some (.int .i64 (x : Int)) := hSr.cell rfl (ixC_at hx)
      have cy : ∀ q : BelowOf wr, q.X.cell? ⟨g, k, none⟩ = some (.int .i64 (y : Int)) := fun q => q.cell (a := ⟨g, k, none⟩) hgl cy0
      have cx : ∀ q : BelowOf wr, q.X.cell? ⟨g, p, none⟩ = some (.int .i64 (x : Int)) := fun q => q.cell (a := ⟨g, p, none⟩) hgl cx0
      have HEQ := Lib.hid (fun X (hX : Below wr.heap.size wr X) => HE.out wr (KeepK.of_below hB.out fun i hi => hi.1) X hX y x (HS.out.2.1.lt y (List.mem_of_getElem? hy)) (HS.out.2.1.lt x (List.mem_of_getElem? hx)))
      have hkp : (k : Int) - 1 = (p : Int) := by omega
      have hwr : IntKind.i64.wrap ((k : Int) - 1) = (p : Int) := by rw [IntKind.wrap_i64]; omega
      have hpN : (p : Int) < (N : Int) := by omega
      have HX := Lib.hid (And.intro hx (And.intro hy (And.intro hp hlt)))
      clear hx hy hp hlt cy0 cx0 hSr hkp
      by_cases hk : keyF fs y = keyF fs x
      · rw [decide_eq_true hk] at HEQ
        have HK := Lib.hid hk
        clear hk
        go_wp2_with (fail)
        refine wp_region_low (by kernel_rfl) (by kernel_rfl) ?_
        repeat (refine low_step (fun K hK => ?_); go_simp; first | (refine hK _ ?_; clear hK K) | (apply Exists.intro; refine ⟨fun q => ?_, hK _ ?_⟩; (first | (go_at_call 60; exact calls_low (HEQ.out _ q.h))); clear hK K))
        refine low_nil ?_
        rintro ⟨W5, hb5⟩
        dsimp only
        have HB5 := Lib.hid (hB.out.trans (hb5.mono hB.out.size))
        clear hb5 cy cx hwr HEQ
        have hsz : ∀ W : World, (sizeOf (Tryz.prog.elem 114)).run Tryz.prog W = .ok 1 W := fun W => by rfl
        have hadd : ∀ k : Nat, (⟨g, 0, none⟩ : Addr).add k = ⟨g, k, none⟩ := fun k => by rw [Go.WideShapes.add_plain, Nat.zero_add]
        have hkc : ¬ c = k := by have := HX.out.2.2.2; have := HS.out.2.2.2.2; omega
        have hsl : ∀ W : World, (Instr.slice 114 (.slice (some ⟨g, 0, none⟩) N c) (some (.int .i64 (k : Int))) none none).run Tryz.prog W = .ok (.slice (some ⟨g, k, none⟩) (N - k) (c - k)) W := fun W => by
          rw [run_slice_l (P := Tryz.prog) W 114 (some ⟨g, 0, none⟩) N c Tryz.underlying114 .i64 (k : Int) (by omega) (by omega), hsz]
          have e : (k : Int).toNat = k := by omega
          rw [e]
          simp [sliced, Result.andThen, hadd, hkc]
        have HSL := Lib.hid (And.intro hsz hadd)
        have hnkI : ((N - k : Nat) : Int) = (N : Int) - (k : Int) := by have := HX.out.2.2.2; omega
        obtain ⟨M, hM⟩ : ∃ M, N - k = M := ⟨_, rfl⟩
        have HM := Lib.hid hM
        rw [hM] at hsl hnkI
        have hMI : (M : Int) ≤ 1000000 := by omega
        clear hsz hadd hkc hM hnkI
        go_wp2_with (fail)
        clear hsl
        have HST := Lib.hid (show ddX (keyF fs) none (P.take (k + 1)) = P.take k from by
          have h0 := hd.out
          have hp := HX.out.2.2.1
          rw [hp] at h0 ⊢
          rw [ddX_step (keyF fs) HX.out.1 HX.out.2.1, h0, if_pos HK.out.symm, List.append_nil])
        go_loopg [5, 7] M (fun gg v5 v7 ws => ∃ (kd k2 : Nat) (R : List Nat), v5 = .int .i64 (kd : Int) ∧ v7 = .int .i64 (k2 : Int) ∧ Aside (gg + k2 = M + 1 ∧ 1 ≤ k2 ∧ k2 ≤ M ∧ kd < k + k2) ∧ Aside (R.length = N ∧ R.take kd = ddX (keyF fs) none (P.take (k + k2)) ∧ R.drop (k + k2 - 1) = P.drop (k + k2 - 1) ∧ kd ≤ N) ∧ Aside (Sl ws 1 (.slice (some ⟨g, 0, none⟩) N c) N (ixC R)) ∧ Aside (KeepK (fun i => i < w.heap.size ∧ i ≠ g) w ws))
        case atStart =>
          have := HM.out; have := HX.out.2.2.2; have := HN.out
          refine ⟨k, 1, P, rfl, rfl, ⟨by omega, Nat.le_refl _, by omega, by omega⟩, ⟨HN.out, HST.out.symm, rfl, by omega⟩, HS.out.1.below HB5.out HS.out.1.lt, KeepK.of_below HB5.out fun i hi => hi.1⟩
        case round =>
          obtain ⟨kd, k2, R, rfl, rfl, hg2, hR, hRS, hRK⟩ := hrel
          have hk2I : (k2 : Int) ≤ 1000000 := by have := hg2.out; omega
          have hkdI : (kd : Int) ≤ 1000000 := by have := hR.out; omega
          by_cases hlt2 : k2 < M
          · have hlt2I : (k2 : Int) < (M : Int) := by omega
            obtain ⟨m, hm⟩ : ∃ m, k2 = m + 1 := ⟨k2 - 1, by have := hg2.out.2.1; omega⟩
            obtain ⟨y2, hy2⟩ : ∃ y, P[k + m + 1]? = some y := ⟨_, List.getElem?_eq_getElem (by have := HN.out; have := HM.out; omega)⟩
            obtain ⟨x2, hx2⟩ : ∃ x, P[k + m]? = some x := ⟨_, List.getElem?_eq_getElem (by have := HN.out; have := HM.out; omega)⟩
            have hRat : ∀ i z, k + m ≤ i → P[i]? = some z → R[i]? = some z := fun i z hi hz => by
              have h := hR.out.2.2.1
              rw [show k + k2 - 1 = k + m by omega] at h
              have e1 : (R.drop (k + m))[i - (k + m)]? = R[i]? := by rw [List.getElem?_drop]; congr 1; omega
              have e2 : (P.drop (k + m))[i - (k + m)]? = P[i]? := by rw [List.getElem?_drop]; congr 1; omega
              rw [← e1, h, e2, hz]
            have hgl2 : g < wr.heap.size := hRS.out.lt g rfl
            have cy0 : wr.cell? ⟨g, k + k2, none⟩ = some (.int .i64 (y2 : Int)) := by rw [hm, ← Nat.add_assoc]; exact hRS.out.cell rfl (ixC_at (hRat _ _ (by omega) hy2))
            have cx0 : wr.cell? ⟨g, k + m, none⟩ = some (.int .i64 (x2 : Int)) := hRS.out.cell rfl (ixC_at (hRat _ _ (by omega) hx2))
            have cy : ∀ q : BelowOf wr, q.X.cell? ⟨g, k + k2, none⟩ = some (.int .i64 (y2 : Int)) := fun q => q.cell (a := ⟨g, k + k2, none⟩) hgl2 cy0
            have cx : ∀ q : BelowOf wr, q.X.cell? ⟨g, k + m, none⟩ = some (.int .i64 (x2 : Int)) := fun q => q.cell (a := ⟨g, k + m, none⟩) hgl2 cx0
            have HEQ := Lib.hid (fun X (hX : Below wr.heap.size wr X) => HE.out wr hRK.out X hX y2 x2 (HS.out.2.1.lt y2 (List.mem_of_getElem? hy2)) (HS.out.2.1.lt x2 (List.mem_of_getElem? hx2)))
            have hwr : IntKind.i64.wrap ((k2 : Int) - 1) = (m : Int) := by rw [IntKind.wrap_i64]; omega
            have hmM : (m : Int) < (M : Int) := by omega
            have HX2 := Lib.hid (And.intro hx2 (And.intro hy2 (And.intro hm (And.intro hlt2 hRat))))
            have HST2 := Lib.hid (ddX_step (keyF fs) hx2 hy2)
            clear hx2 hy2 hm hlt2 cy0 cx0 hRat
            by_cases hk2 : keyF fs y2 = keyF fs x2
            · rw [decide_eq_true hk2] at HEQ
              have HK2 := Lib.hid hk2
              clear hk2
              go_wp2_with (fail)
              refine wp_region_low (by kernel_rfl) (by kernel_rfl) ?_
              repeat (refine low_step (fun K hK => ?_); go_simp; first | (refine hK _ ?_; clear hK K) | (apply Exists.intro; refine ⟨fun q => ?_, hK _ ?_⟩; (first | (go_at_call 60; exact calls_low (HEQ.out _ q.h))); clear hK K))
              refine low_nil ?_
              rintro ⟨W5, hb5⟩
              dsimp only
              have HB6 := Lib.hid hb5
              clear hb5 cy cx hwr HEQ
              go_wp2_with (fail)
              go_roundg (M - k2)
              case measure => have := hg2.out; have := HX2.out.2.2.2.1; omega
              case rel =>
                have hm := HX2.out.2.2.1
                refine ⟨kd, k2 + 1, R, rfl, by go_num, ⟨by have := HX2.out.2.2.2.1; omega, by omega, by have := HX2.out.2.2.2.1; omega, by have := hg2.out; omega⟩, ⟨hR.out.1, ?_, ?_, hR.out.2.2.2⟩, hRS.out.below HB6.out hRS.out.lt, hRK.out.trans (KeepK.of_below HB6.out fun i hi => Nat.lt_of_lt_of_le hi.1 hRK.out.size)⟩
                · rw [show k + (k2 + 1) = k + m + 2 by omega, HST2.out, if_pos HK2.out.symm, List.append_nil, hR.out.2.1, show k + k2 = k + m + 1 by omega]
                · have h := hR.out.2.2.1
                  have := congrArg (List.drop 1) h
                  rw [List.drop_drop, List.drop_drop] at this
                  rw [show k + (k2 + 1) - 1 = k + k2 - 1 + 1 by omega]
                  exact this
            · rw [decide_eq_false hk2] at HEQ
              have HK2 := Lib.hid hk2
              clear hk2
              go_wp2_with (fail)
              refine wp_region_low (by kernel_rfl) (by kernel_rfl) ?_
              repeat (refine low_step (fun K hK => ?_); go_simp; first | (refine hK _ ?_; clear hK K) | (apply Exists.intro; refine ⟨fun q => ?_, hK _ ?_⟩; (first | (go_at_call 60; exact calls_low (HEQ.out _ q.h))); clear hK K))
              refine low_nil ?_
              rintro ⟨W5, hb5⟩
              dsimp only
              have hS6 := hRS.out.below hb5 hRS.out.lt
              have cy6 : W5.cell? ⟨g, k + k2, none⟩ = some (.int .i64 (y2 : Int)) := cy ⟨W5, hb5⟩
              have hkdN : kd < N := by have := hg2.out; have := HX2.out.2.2.2.1; have := HM.out; omega
              obtain ⟨r0, hr0⟩ : ∃ r, R[kd]? = some r := ⟨_, List.getElem?_eq_getElem (by have := hR.out.1; omega)⟩
              have ckd : W5.cell? ⟨g, kd, none⟩ = some (.int .i64 (r0 : Int)) := hS6.cell rfl (ixC_at hr0)
              have fkd := hS6.free (g := g) rfl (j := kd) (by omega)
              have hkdNI : (kd : Int) < (N : Int) := by omega
              have HB6 := Lib.hid (And.intro hb5 (And.intro hS6 hkdN))
              clear hb5 cy cx hwr HEQ hS6 hkdN hr0
              go_wp2_with (fail)
              go_roundg (M - k2)
              case measure => have := hg2.out; have := HX2.out.2.2.2.1; omega
              case rel =>
                have hm := HX2.out.2.2.1
                refine ⟨kd + 1, k2 + 1, R.set kd y2, by go_num, by go_num, ⟨by have := HX2.out.2.2.2.1; omega, by omega, by have := HX2.out.2.2.2.1; omega, by have := hg2.out; omega⟩, ⟨by rw [List.length_set]; exact hR.out.1, ?_, ?_, by have := HB6.out.2.2; omega⟩, ?_, (hRK.out.trans (KeepK.of_below HB6.out.1 fun i hi => Nat.lt_of_lt_of_le hi.1 hRK.out.size)).setCell (p := ⟨g, kd, none⟩) (fun i hi => hi.2) _⟩
                · rw [show k + (k2 + 1) = k + m + 2 by omega, HST2.out, if_neg (fun e => HK2.out e.symm), ← show k + k2 = k + m + 1 by omega, ← hR.out.2.1]
                  have hl : kd < (R.set kd y2).length := by rw [List.length_set, hR.out.1]; exact HB6.out.2.2
                  rw [List.take_add_one, List.getElem?_set_self (by have := hR.out.1; have := HB6.out.2.2; omega), List.take_set_of_le (by omega)]
                  rfl
                · have h := hR.out.2.2.1
                  have := congrArg (List.drop 1) h
                  rw [List.drop_drop, List.drop_drop] at this
                  rw [show k + (k2 + 1) - 1 = k + k2 - 1 + 1 by omega, List.drop_set_of_lt (by have := hg2.out; omega)]
                  exact this
                · show Sl _ _ _ _ _
                  rw [ixC_set]
                  exact HB6.out.2.1.set_ (g := g) rfl kd _ (by have := HB6.out.2.2; omega)
          · have hlt2I : ¬ (k2 : Int) < (M : Int) := by omega
            have hkdN : kd < N := by have := hg2.out; have := HM.out; have := HX.out.2.2.2; omega
            have hfin : R.take kd = ddX (keyF fs) none P := by
              rw [hR.out.2.1, List.take_of_length_le (by have := HN.out; have := hg2.out; have := HM.out; have := HX.out.2.2.2; omega)]
            obtain ⟨hsz, hadd⟩ := HSL.out
            have hkc : ¬ c = kd := by have := HS.out.2.2.2.2; omega
            have hsl1 : ∀ W : World, (Instr.slice 114 (.slice (some ⟨g, 0, none⟩) N c) (some (.int .i64 (kd : Int))) none none).run Tryz.prog W = .ok (.slice (some ⟨g, kd, none⟩) (N - kd) (c - kd)) W := fun W => by
              rw [run_slice_l (P := Tryz.prog) W 114 (some ⟨g, 0, none⟩) N c Tryz.underlying114 .i64 (kd : Int) (by omega) (by omega), hsz]
              have e : (kd : Int).toNat = kd := by omega
              rw [e]
              simp [sliced, Result.andThen, hadd, hkc]
            have hsl2 : ∀ W : World, (Instr.slice 114 (.slice (some ⟨g, 0, none⟩) N c) none (some (.int .i64 (kd : Int))) none).run Tryz.prog W = .ok (.slice (some ⟨g, 0, none⟩) kd c) W := fun W => by
              rw [run_slice_h (P := Tryz.prog) W 114 (some ⟨g, 0, none⟩) N c Tryz.underlying114 .i64 (kd : Int) (by omega) (by omega), hsz]
              simp [sliced, Result.andThen, hadd]
            have hvl : ∀ v ∈ (Builtin.zeroCells (Value.int .i64 0).cells (N - kd)).toList, v.oneCell' = true ∧ True := fun v hv => by
              have h1 : v = .int .i64 0 := by
                simp only [Builtin.zeroCells, Value.cells] at hv
                simp at hv
                obtain ⟨q, _, h2⟩ := hv
                rw [← h2, Nat.mod_one]
                rfl
              rw [h1]
              exact ⟨rfl, trivial⟩
            have hzl : (Builtin.zeroCells (Value.int .i64 0).cells (N - kd)).toList.length = N - kd := by
              simp [Builtin.zeroCells, Value.cells]
            obtain ⟨W9, hW9⟩ : ∃ W9, wr.setCells g kd (Builtin.zeroCells (Value.int .i64 0).cells (N - kd)).toList = W9 := ⟨_, rfl⟩
            have hclr : ∀ ty : TypeId, (Builtin.clear_ #[114] ty #[.slice (some ⟨g, kd, none⟩) (N - kd) (c - kd)]).run Tryz.prog wr = .ok (.tuple #[]) W9 := fun ty => by
              rw [← hW9]
              refine run_clear_any (P := Tryz.prog) wr 114 3 ty (.int .i64 0) Tryz.underlying114 (fun w => by rfl) g kd (N - kd) (c - kd) (by omega) (fun v hv => (hvl v hv).1) (fun j hj => ?_) (fun j hj => ?_)
              · rw [hzl] at hj
                obtain ⟨r, hr⟩ : ∃ r, R[kd + j]? = some r := ⟨_, List.getElem?_eq_getElem (by have := hR.out.1; omega)⟩
                rw [hRS.out.cell (g := g) rfl (ixC_at hr)]
                rfl
              · rw [hzl] at hj
                exact hRS.out.free (g := g) rfl (by omega)
            have hS9 : Sl W9 1 (.slice (some ⟨g, 0, none⟩) kd c) kd (ixC (ddX (keyF fs) none P)) := by
              have h := hRS.out.cut kd (by omega) (Builtin.zeroCells (Value.int .i64 0).cells (N - kd)).toList (by rw [hzl]; omega)
              rw [Nat.mul_one, hW9] at h
              rw [← hfin]
              have e : ixC (R.take kd) = (ixC R).take kd := by unfold ixC; rw [List.map_take]
              rw [e]
              exact h
            have hK9 : KeepK (fun i => i < w.heap.size ∧ i ≠ g) w W9 := by
              rw [← hW9]
              exact hRK.out.trans ((KeepK.refl _ wr).setCells g kd _ (fun i hi => ⟨Nat.lt_of_lt_of_le hi.1 hRK.out.size, hi.2⟩))
            have hlen : (ddX (keyF fs) none P).length = kd := by rw [← hfin, List.length_take, hR.out.1]; omega
            have H9 := Lib.hid (And.intro hS9 (And.intro hK9 hlen))
            have hkdN2 : (kd : Int) ≤ (N : Int) := by omega
            clear hS9 hK9 hlen hW9 hzl hvl hsz hadd hkc hfin hlt2 hkdN
            go_wp2_with (fail)
            go_ret
            unfold CompQ
            rw [H9.out.2.2]
            exact ⟨rfl, H9.out.1, H9.out.2.1⟩
      · rw [decide_eq_false hk] at HEQ
        have HK := Lib.hid hk
        clear hk
        go_wp2_with (fail)
        refine wp_region_low (by kernel_rfl) (by kernel_rfl) ?_
        repeat (refine low_step (fun K hK => ?_); go_simp; first | (refine hK _ ?_; clear hK K) | (apply Exists.intro; refine ⟨fun q => ?_, hK _ ?_⟩; (first | (go_at_call 60; exact calls_low (HEQ.out _ q.h))); clear hK K))
        refine low_nil ?_
        rintro ⟨W5, hb5⟩
        dsimp only
        have HB5 := Lib.hid (hB.out.trans (hb5.mono hB.out.size))
        clear hb5 cy cx hwr HEQ
        go_wp2_with (fail)
        go_roundg (N - (k + 1))
        case measure => have := hg.out; have := HX.out.2.2.2; omega
        case rel =>
          refine ⟨k + 1, by go_num, ⟨by have := HX.out.2.2.2; omega, by omega⟩, ?_, HB5.out⟩
          show _ = _
          have h0 := hd.out
          have hp := HX.out.2.2.1
          rw [hp] at h0 ⊢
          rw [ddX_step (keyF fs) HX.out.1 HX.out.2.1, h0, if_neg (fun e => HK.out e.symm), List.take_add_one (i := p + 1), HX.out.2.1]
          rfl
    · have hltI : ¬ (k : Int) < (N : Int) := by omega
      have HR := Lib.hid (show ddX (keyF fs) none P = P from by
        have := hd.out
        rw [List.take_of_length_le (by have := HN.out; omega)] at this
        exact this)
      clear hlt
      go_wp2_with (fail)
      go_ret
      unfold CompQ
      rw [HR.out, HN.out]
      exact ⟨rfl, HS.out.1.below hB.out HS.out.1.lt, KeepK.of_below hB.out fun i hi => hi.1⟩
end Go.Proofs.YthnngndnpigjbaaGreat
