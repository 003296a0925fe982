/- The walks of slices.insertionSortCmpFunc, slices.stableCmpFunc (at fewer than 20) and slices.SortStableFunc at numbers that stand for texts. Conditions: none. -/
import Derived.Test.YtfipacfompihkaaIxM
import Derived.Deep.QuietTactic
import Derived.BigQuiet
import Derived.BigRegion
import Derived.IntWalk
import Derived.Deep.LoopGhost
namespace Go.Proofs.Ytfipacfompihkaa
open Go.RowKit Go.Lib

structure IxOk (w : World) (g Bf : Nat) (Af : Option Addr) (cf : Nat) (fs : List ByteArray) (P : List Nat) : Prop where
  key : KeyOk w g Bf Af cf fs
  lt : ∀ p ∈ P, p < fs.length
  ln : fs.length ≤ 1000000
theorem IxOk.keep {w w' : World} {g Bf : Nat} {Af : Option Addr} {cf : Nat} {fs : List ByteArray} {P : List Nat} (h : IxOk w g Bf Af cf fs P) (hk : KeepK (fun i => i < w.heap.size ∧ i ≠ g) w w') : IxOk w' g Bf Af cf fs P := ⟨h.key.keep hk, h.lt, h.ln⟩
theorem IxOk.mem {w : World} {g Bf : Nat} {Af : Option Addr} {cf : Nat} {fs : List ByteArray} {P Q : List Nat} (h : IxOk w g Bf Af cf fs P) (hq : ∀ q ∈ Q, q ∈ P) : IxOk w g Bf Af cf fs Q := ⟨h.key, fun q hm => h.lt q (hq q hm), h.ln⟩
/-- What a row of numbers holds when a part of it was put in order. -/
def InsQ (fs : List ByteArray) (g c : Nat) (X M Y : List Nat) (w : World) (e : Ending) (w' : World) : Prop :=
  e = .returned (.tuple #[]) ∧ ∃ M', SrtK (keyF fs) cmpS M' ∧ StS (keyF fs) M' M ∧ Sl w' 1 (.slice (some ⟨g, 0, none⟩) (X ++ (M' ++ Y)).length c) (X ++ (M' ++ Y)).length (ixC (X ++ (M' ++ Y))) ∧ KeepK (fun i => i < w.heap.size ∧ i ≠ g) w w'
section
variable {α : Type}
theorem atMid (X S : List α) (x : α) (Z : List α) : (X ++ (S ++ x :: Z))[X.length + S.length]? = some x := by simp
theorem swapMid (X S : List α) (x s : α) (Z : List α) : ((X ++ (S ++ s :: x :: Z)).set (X.length + S.length + 1) s).set (X.length + S.length) x = X ++ (S ++ x :: s :: Z) := by
  have e1 : X.length + S.length + 1 - X.length - S.length = 1 := by omega
  have e2 : X.length + S.length - X.length - S.length = 0 := by omega
  rw [List.set_append_right _ _ (by omega), List.set_append_right _ _ (by omega), List.set_append_right _ _ (by omega), List.set_append_right _ _ (by omega), e1, e2]
  rfl
end
set_option maxRecDepth 100000 in
set_option maxHeartbeats 4000000 in
theorem insSortI_any (fs : List ByteArray) (Af : Option Addr) (cf Bf g c a b : Nat) (X M Y : List Nat) (w : World) (hS : Sl w 1 (.slice (some ⟨g, 0, none⟩) (X ++ (M ++ Y)).length c) (X ++ (M ++ Y)).length (ixC (X ++ (M ++ Y)))) (hP : IxOk w g Bf Af cf fs (X ++ (M ++ Y))) (hn : (X ++ (M ++ Y)).length ≤ 1000000)
    (ha : a = X.length) (hb : b = X.length + M.length) :
    Calls Try.prog 117 #[.slice (some ⟨g, 0, none⟩) (X ++ (M ++ Y)).length c, .int .i64 (a : Int), .int .i64 (b : Int), .func (.func 88) #[] #[.pointer (some ⟨Bf, 0, none⟩)]] w (InsQ fs g c X M Y w) := by
  obtain ⟨N, hN⟩ : ∃ N, (X ++ (M ++ Y)).length = N := ⟨_, rfl⟩
  have hN3 : N = X.length + (M.length + Y.length) := by rw [← hN]; simp
  have hNI : (N : Int) ≤ 1000000 := by omega
  have haI : (a : Int) ≤ 1000000 := by omega
  have hbI : (b : Int) ≤ 1000000 := by omega
  have HS := Lib.hid (And.intro hS (And.intro hP (And.intro hN hn)))
  have HAB := Lib.hid (And.intro ha (And.intro hb hN3))
  rw [hN]
  clear hS hP hn hN ha hb hN3
  go_enter Try.func117, Try.ntmps117
  go_wp2_with (fail)
  by_cases hM : M.length = 0
  · have hge : ¬ (a : Int) + 1 < (b : Int) := by have := HAB.out; omega
    have hM0 : M = [] := List.eq_nil_of_length_eq_zero hM
    clear hM
    go_loopg [8] 0 (fun _ v8 wr => v8 = .int .i64 ((a : Int) + 1) ∧ wr = w)
    case atStart => exact ⟨rfl, rfl⟩
    case round =>
      obtain ⟨rfl, rfl⟩ := hrel
      have HM := Lib.hid hM0
      clear hM0
      go_wp2_with (fail)
      refine bodyPost_end (results_none rfl _ _ _) rfl ?_
      obtain ⟨hS, hP, hN, hn⟩ := HS.out
      refine ⟨rfl, [], List.Pairwise.nil, by rw [HM.out]; exact StS.refl _, ?_, KeepK.refl _ _⟩
      rw [HM.out] at hS
      exact hS
  have hM1 : 1 ≤ M.length := by omega
  clear hM
  go_loopg [8, 9] (M.length - 1) (fun gg v8 _ wr => ∃ (i k : Nat) (S : List Nat), v8 = .int .i64 (i : Int) ∧ Aside (i = X.length + k) ∧ Aside (gg + k = M.length ∧ 1 ≤ k ∧ k ≤ M.length ∧ S.length = k) ∧ Aside (SrtK (keyF fs) cmpS S ∧ StS (keyF fs) S (M.take k)) ∧ Aside (Sl wr 1 (.slice (some ⟨g, 0, none⟩) N c) N (ixC (X ++ (S ++ (M.drop k ++ Y))))) ∧ Aside (KeepK (fun i => i < w.heap.size ∧ i ≠ g) w wr))
  case atStart =>
    refine ⟨a + 1, 1, M.take 1, by congr 1, ?_, ?_, ?_, ?_, KeepK.refl _ _⟩
    · show _ = _
      rw [HAB.out.1]
    · show _ ∧ _
      rw [List.length_take]
      exact ⟨by omega, by omega, by omega, by omega⟩
    · refine ⟨?_, StS.refl _⟩
      obtain ⟨m, M', rfl⟩ : ∃ m M', M = m :: M' := by
        cases M with
        | nil => simp at hM1
        | cons m M' => exact ⟨m, M', rfl⟩
      exact List.pairwise_singleton _ _
    · obtain ⟨hS, hP, hN, hn⟩ := HS.out
      rw [hN] at hS
      show Sl _ _ _ _ _
      rw [← List.append_assoc (M.take 1), List.take_append_drop]
      exact hS
  case round =>
    obtain ⟨i, k, S, rfl, hik, hkk, hSS, hRow, hK⟩ := hrel
    have hiI : (i : Int) ≤ 1000000 := by have := hik.out; have := hkk.out; have := HAB.out; omega
    by_cases hlt : i < b
    · have hltI : (i : Int) < (b : Int) := by omega
      obtain ⟨x, hx⟩ : ∃ x, M[k]? = some x := ⟨_, List.getElem?_eq_getElem (by have := hik.out; have := HAB.out; omega)⟩
      have HX := Lib.hid (And.intro hx hlt)
      clear hx hlt
      go_wp2_with (fail)
      go_loopg [9] k (fun gi v9 wi => ∃ (j : Nat) (S1 T : List Nat), v9 = .int .i64 (j : Int) ∧ Aside (j = X.length + S1.length ∧ gi = S1.length) ∧ Aside (S1.length + T.length = k) ∧ Aside (SrtK (keyF fs) cmpS (S1 ++ T) ∧ StS (keyF fs) (S1 ++ T) (M.take k) ∧ ∀ t ∈ T, cmpS (keyF fs x) (keyF fs t) < 0) ∧ Aside (Sl wi 1 (.slice (some ⟨g, 0, none⟩) N c) N (ixC (X ++ (S1 ++ x :: (T ++ (M.drop (k + 1) ++ Y)))))) ∧ Aside (KeepK (fun i => i < w.heap.size ∧ i ≠ g) w wi))
      case atStart =>
        obtain ⟨hg, h1k, hkM, hSl⟩ := hkk.out
        refine ⟨i, S, [], rfl, ⟨by rw [hSl]; exact hik.out, hSl.symm⟩, ?_, ⟨by rw [List.append_nil]; exact hSS.out.1, by rw [List.append_nil]; exact hSS.out.2, fun t ht => absurd ht List.not_mem_nil⟩, ?_, hK.out⟩
        · show S.length + 0 = k
          exact hSl
        · have h := hRow.out
          obtain ⟨h1, h2⟩ := List.getElem?_eq_some_iff.1 HX.out.1
          rw [List.drop_eq_getElem_cons h1, h2] at h
          exact h
      case round =>
        obtain ⟨j, S1, T, rfl, hj, hST, hSS1, hRow1, hK1⟩ := hrel
        clear hRow hK hSS
        have HK2 : Hid (k + 1 ≤ M.length) := Lib.hid (by have := (List.getElem?_eq_some_iff.1 HX.out.1).1; omega)
        have hjI : (j : Int) ≤ 1000000 := by have := hj.out; have := hST.out; have := hkk.out; have := HAB.out; omega
        have fin : (S1.getLast? = none ∨ ∃ s, S1.getLast? = some s ∧ ¬ cmpS (keyF fs x) (keyF fs s) < 0) → SrtK (keyF fs) cmpS (S1 ++ x :: T) ∧ StS (keyF fs) (S1 ++ x :: T) (M.take (k + 1)) := fun hl => by
          obtain ⟨h1, h2, h3⟩ := hSS1.out
          refine ⟨SrtK.ins cmpS_tot h1 h3 fun s hs => ?_, ?_⟩
          · rcases hl with h | ⟨s', h, h'⟩
            · rw [h] at hs; cases hs
            · rw [h] at hs; cases hs; exact h'
          · obtain ⟨q1, q2⟩ := List.getElem?_eq_some_iff.1 HX.out.1
            rw [List.take_succ_eq_append_getElem q1, q2]
            have e1 : StS (keyF fs) (S1 ++ x :: T) (S1 ++ (T ++ [x])) := (StS.refl S1).append (StS.rot (X := T) (Y := [x]) fun t ht y hy e => by
              rw [List.mem_singleton.1 hy] at e
              have := h3 t ht
              rw [e, (cmpS_tot.zero _ _).2 rfl] at this
              omega)
            rw [← List.append_assoc] at e1
            exact e1.trans (h2.append (StS.refl [x]))
        have HF := Lib.hid fin
        clear fin
        rcases List.eq_nil_or_concat S1 with hS0 | ⟨S0, s, hS0⟩
        · have hle : ¬ (a : Int) < (j : Int) := by have h1 := hj.out; have h2 := HAB.out; rw [hS0] at h1; simp at h1; omega
          have hd2 : decide (a < j) = false := by simpa using hle
          have hd : decide ((a : Int) < (j : Int)) = false := by simpa using hle
          have hfin := HF.out (.inl (by rw [hS0]; rfl))
          have HFI := Lib.hid hfin
          clear hS0 hfin hle HF
          go_wp2_with (fail)
          go_quiet (fail)
          go_wp2_with (fail)
          go_roundg (M.length - (k + 1))
          case measure => have := hkk.out; have := HK2.out; omega
          case rel =>
            obtain ⟨hg, h1k, hkM, hSl⟩ := hkk.out
            have hkl := HK2.out
            refine ⟨i + 1, k + 1, S1 ++ x :: T, by go_num, ?_, ?_, HFI.out, ?_, ?_⟩
            · show _ = _
              rw [hik.out]; omega
            · show _ ∧ _
              have := hST.out
              simp only [List.length_append, List.length_cons]
              exact ⟨by omega, by omega, by omega, by omega⟩
            · show Sl _ _ _ _ _
              rw [show (S1 ++ x :: T) ++ (M.drop (k + 1) ++ Y) = S1 ++ x :: (T ++ (M.drop (k + 1) ++ Y)) by simp]
              exact hRow1.out.drewN _
            · exact hK1.out.drewN _
        · obtain ⟨p, hp⟩ : ∃ p, X.length + S0.length = p := ⟨_, rfl⟩
          have hj1 : j = p + 1 := by have h1 := hj.out; rw [hS0] at h1; simp at h1; omega
          have hpa : a ≤ p := by have := HAB.out; omega
          have hlen : j < N := by
            have h1 := hj.out; have h2 := HAB.out; have h3 := hST.out; have h4 := hik.out; have h5 := HX.out.2
            omega
          have hatx := atMid X S1 x (T ++ (M.drop (k + 1) ++ Y))
          rw [← hj.out.1] at hatx
          have hats : (X ++ (S1 ++ x :: (T ++ (M.drop (k + 1) ++ Y))))[p]? = some s := by
            have h := atMid X S0 s (x :: (T ++ (M.drop (k + 1) ++ Y)))
            rw [hp] at h
            rw [hS0, List.concat_eq_append, List.append_assoc]
            exact h
          have c0' : wr.cell? ⟨g, j, none⟩ = some (.int .i64 (x : Int)) := hRow1.out.cell rfl (ixC_at hatx)
          have d0' : wr.cell? ⟨g, p, none⟩ = some (.int .i64 (s : Int)) := hRow1.out.cell rfl (ixC_at hats)
          have hgl : g < wr.heap.size := hRow1.out.lt g rfl
          have c0 : ∀ q : BelowOf wr, q.X.cell? ⟨g, j, none⟩ = some (.int .i64 (x : Int)) := fun q => q.cell (a := ⟨g, j, none⟩) hgl c0'
          have d0 : ∀ q : BelowOf wr, q.X.cell? ⟨g, p, none⟩ = some (.int .i64 (s : Int)) := fun q => q.cell (a := ⟨g, p, none⟩) hgl d0'
          have hPl : IxOk wr g Bf Af cf fs (X ++ (M ++ Y)) := HS.out.2.1.keep hK1.out
          have hxm : x ∈ X ++ (M ++ Y) := List.mem_append_right _ (List.mem_append_left _ (List.mem_of_getElem? HX.out.1))
          have hsm : s ∈ X ++ (M ++ Y) := by
            have h1 : s ∈ S1 ++ T := by rw [hS0]; simp
            have h2 := hSS1.out.2.1.mem h1
            exact List.mem_append_right _ (List.mem_append_left _ (List.mem_of_mem_take h2))
          have HCL := Lib.hid (fun W (hW : Below wr.heap.size wr W) => rise_any (hPl.key.low hW) hPl.ln x s (hPl.lt x hxm) (hPl.lt s hsm))
          have hd1 : decide ((a : Int) < (j : Int)) = true := by simp; omega
          have hd2 : decide (a < j) = true := by simp; omega
          have hwr : IntKind.i64.wrap ((j : Int) - 1) = (p : Int) := by rw [IntKind.wrap_i64]; omega
          have hjN : (j : Int) < (N : Int) := by omega
          have hpN : (p : Int) < (N : Int) := by omega
          have HJ := Lib.hid (And.intro hj1 (And.intro hp (And.intro hS0 hsm)))
          obtain ⟨z, hz⟩ : ∃ z, cmpS (keyF fs x) (keyF fs s) = z := ⟨_, rfl⟩
          rw [hz] at HCL
          have HZ := Lib.hid hz
          clear hz hatx hats hPl hxm hsm hS0 hp hj1 hlen hpa c0' d0'
          by_cases hz0 : z < 0
          · have hzd : decide (z < 0) = true := by simpa using hz0
            go_wp2_with (fail)
            refine wp_region_low (by kernel_rfl) (by kernel_rfl) ?_
            repeat (refine low_step (fun K hK => ?_); go_simp; first | (refine hK _ ?_; clear hK K) | (apply Exists.intro; refine ⟨fun q => ?_, hK _ ?_⟩; (first | (go_at_call 88; exact calls_low (HCL.out _ q.h))); clear hK K))
            refine low_nil ?_
            rintro ⟨W5, hb5⟩
            dsimp only
            have c1 : W5.cell? ⟨g, j, none⟩ = some (.int .i64 (x : Int)) := c0 ⟨W5, hb5⟩
            have d1 : W5.cell? ⟨g, p, none⟩ = some (.int .i64 (s : Int)) := d0 ⟨W5, hb5⟩
            have hS2 := hRow1.out.below hb5 (hRow1.out.lt)
            have HS2 := Lib.hid (And.intro hS2 hb5)
            have f0 := hS2.free (g := g) rfl (j := j) (by omega)
            have f2 := hS2.free (g := g) rfl (j := p) (by omega)
            have n1 : (⟨g, p, none⟩ : Addr) ≠ ⟨g, j, none⟩ := by have := HJ.out.1; intro h; injection h; omega
            have u0 : (W5.setCell ⟨g, j, none⟩ (.int .i64 (s : Int))).cell? ⟨g, p, none⟩ = some (.int .i64 (s : Int)) := by rw [World.cell?_setCell_other _ _ _ _ n1.symm]; exact d1
            clear hS2 hb5 c0 d0 hd1 hd2 hzd
            go_wp2_with (fail)
            go_region
            clear hwr u0 n1
            go_wp2_with (fail)
            obtain ⟨hj1, hp, hS0, hsm⟩ := HJ.out
            go_roundg S0.length
            case measure => have h1 := hj.out.2; rw [hS0] at h1; simp at h1; omega
            case rel =>
              refine ⟨p, S0, s :: T, by congr 1; omega, ⟨hp.symm, rfl⟩, ?_, ⟨?_, ?_, ?_⟩, ?_, ?_⟩
              · show _ = _
                have h1 := hST.out
                rw [hS0] at h1
                simp at h1 ⊢
                omega
              · have h1 := hSS1.out.1
                rw [hS0] at h1
                simpa using h1
              · have h1 := hSS1.out.2.1
                rw [hS0] at h1
                simpa using h1
              · intro t ht
                rcases List.mem_cons.1 ht with rfl | ht
                · rw [HZ.out]; exact hz0
                · exact hSS1.out.2.2 t ht
              · show Sl _ _ _ _ _
                have e1 : X ++ (S1 ++ x :: (T ++ (M.drop (k + 1) ++ Y))) = X ++ (S0 ++ s :: x :: (T ++ (M.drop (k + 1) ++ Y))) := by rw [hS0]; simp
                have h1 := HS2.out.1
                rw [e1] at h1
                have h2 := (h1.set_ (g := g) rfl j (.int .i64 (s : Int)) (by omega)).set_ (g := g) rfl p (.int .i64 (x : Int)) (by omega)
                rw [← ixC_set, ← ixC_set, hj1, ← hp, swapMid X S0 x s] at h2
                rw [hj1, ← hp]
                exact h2.drew
              · exact (((hK1.out.trans (KeepK.of_below HS2.out.2 fun i hi => Nat.lt_of_lt_of_le hi.1 hK1.out.size)).setCell (p := ⟨g, j, none⟩) (fun i hi => hi.2) _).setCell (p := ⟨g, p, none⟩) (fun i hi => hi.2) _).drew
          · have hzd : decide (z < 0) = false := by simpa using hz0
            go_wp2_with (fail)
            refine wp_region_low (by kernel_rfl) (by kernel_rfl) ?_
            repeat (refine low_step (fun K hK => ?_); go_simp; first | (refine hK _ ?_; clear hK K) | (apply Exists.intro; refine ⟨fun q => ?_, hK _ ?_⟩; (first | (go_at_call 88; exact calls_low (HCL.out _ q.h))); clear hK K))
            refine low_nil ?_
            rintro ⟨W5, hb5⟩
            dsimp only
            have hfin := HF.out (.inr ⟨s, by rw [HJ.out.2.2.1]; simp, by rw [HZ.out]; omega⟩)
            have HFI := Lib.hid (And.intro hfin hb5)
            clear hfin HF hb5 c0 d0 hd1 hd2
            go_wp2_with (fail)
            go_roundg (M.length - (k + 1))
            case measure => have := hkk.out; have := HK2.out; omega
            case rel =>
              obtain ⟨hg, h1k, hkM, hSl⟩ := hkk.out
              have hkl := HK2.out
              have hbf := HFI.out.2
              refine ⟨i + 1, k + 1, S1 ++ x :: T, by go_num, ?_, ?_, HFI.out.1, ?_, ?_⟩
              · show _ = _
                rw [hik.out]; omega
              · show _ ∧ _
                have := hST.out
                simp only [List.length_append, List.length_cons]
                exact ⟨by omega, by omega, by omega, by omega⟩
              · show Sl _ _ _ _ _
                rw [show (S1 ++ x :: T) ++ (M.drop (k + 1) ++ Y) = S1 ++ x :: (T ++ (M.drop (k + 1) ++ Y)) by simp]
                exact hRow1.out.below hbf (hRow1.out.lt)
              · exact hK1.out.trans (KeepK.of_below hbf fun i hi => Nat.lt_of_lt_of_le hi.1 hK1.out.size)
    · have hltI : ¬ (i : Int) < (b : Int) := by omega
      have hkM : k = M.length := by have := hik.out; have := hkk.out; have := HAB.out; omega
      have HKM := Lib.hid hkM
      clear hkM hlt
      go_wp2_with (fail)
      refine bodyPost_end (results_none rfl _ _ _) rfl ?_
      obtain ⟨h1, h2⟩ := hSS.out
      have h3 := hRow.out
      rw [HKM.out, List.take_length] at h2
      rw [HKM.out, List.drop_length, List.nil_append] at h3
      have h4 : (X ++ (S ++ Y)).length = N := by
        have h5 := HAB.out.2.2
        have h6 := h2.len
        simp
        omega
      exact ⟨rfl, S, h1, h2, by rw [h4]; exact h3, hK.out⟩
/-- What a stable sort leaves. -/
def StabQ (fs : List ByteArray) (g c : Nat) (P : List Nat) (w : World) (e : Ending) (w' : World) : Prop :=
  e = .returned (.tuple #[]) ∧ ∃ P', SrtK (keyF fs) cmpS P' ∧ StS (keyF fs) P' P ∧ Sl w' 1 (.slice (some ⟨g, 0, none⟩) P.length c) P.length (ixC P') ∧ KeepK (fun i => i < w.heap.size ∧ i ≠ g) w w'
/-- The sort does what it must at up to m numbers. -/
def StabOkI (m : Nat) : Prop := ∀ (fs : List ByteArray) (Af : Option Addr) (cf Bf g c : Nat) (P : List Nat) (w : World), Sl w 1 (.slice (some ⟨g, 0, none⟩) P.length c) P.length (ixC P) → IxOk w g Bf Af cf fs P → P.length ≤ m →
  Calls Try.prog 110 #[.slice (some ⟨g, 0, none⟩) P.length c, .int .i64 (P.length : Int), .func (.func 88) #[] #[.pointer (some ⟨Bf, 0, none⟩)]] w (StabQ fs g c P w)

set_option maxRecDepth 100000 in
set_option maxHeartbeats 2000000 in
theorem stab_fewI : StabOkI 19 := by
  intro fs Af cf Bf g c P w hS hP hn
  have h1 := insSortI_any fs Af cf Bf g c 0 P.length [] P [] w (by simpa using hS) (by simpa using hP) (by simp; omega) rfl (by simp)
  simp only [List.nil_append, List.append_nil] at h1
  have hnI : (P.length : Int) ≤ 19 := by omega
  have hn0 : ¬ 20 ≤ (P.length : Int) := by omega
  have hn1 : ¬ 20 < (P.length : Int) := by omega
  have H1 := Lib.hid h1
  clear h1 hS hP
  go_enter Try.func110, Try.ntmps110
  go_wp2_with (fail)
  go_loopg [7, 8] 0 (fun _ v7 v8 wr => v7 = .int .i64 0 ∧ v8 = .int .i64 20 ∧ wr = w)
  case atStart => exact ⟨rfl, rfl, rfl⟩
  case round =>
    obtain ⟨rfl, rfl, rfl⟩ := hrel
    go_wp2_with (fail)
    refine H1.out.mono ?_
    rintro e w1 ⟨rfl, P', hp1, hp2, hp3, hp4⟩
    simp only [List.nil_append, List.append_nil] at hp3
    have hl := hp2.len
    rw [hl] at hp3
    have HP := Lib.hid (And.intro hp1 (And.intro hp2 (And.intro hp3 hp4)))
    clear hp1 hp2 hp3 hp4 hl
    go_wp2_with (fail)
    go_loopg [6, 7, 8, 9] 0 (fun _ v6 _ _ _ wr => v6 = .int .i64 20 ∧ wr = w1)
    case atStart => exact ⟨rfl, rfl⟩
    case round =>
      obtain ⟨rfl, rfl⟩ := hrel
      go_wp2_with (fail)
      refine bodyPost_end (results_none rfl _ _ _) rfl ?_
      exact ⟨rfl, P', HP.out.1, HP.out.2.1, HP.out.2.2.1, HP.out.2.2.2⟩

set_option maxRecDepth 100000 in
theorem sortStabI_any {m : Nat} (hm : StabOkI m) (fs : List ByteArray) (Af : Option Addr) (cf Bf g c : Nat) (P : List Nat) (w : World) (hS : Sl w 1 (.slice (some ⟨g, 0, none⟩) P.length c) P.length (ixC P)) (hP : IxOk w g Bf Af cf fs P) (hn : P.length ≤ m) (hb : P.length ≤ 1000000) :
    Calls Try.prog 90 #[.slice (some ⟨g, 0, none⟩) P.length c, .func (.func 88) #[] #[.pointer (some ⟨Bf, 0, none⟩)]] w (StabQ fs g c P w) := by
  have H := Lib.hid (hm fs Af cf Bf g c P w hS hP hn)
  have hnI : (P.length : Int) ≤ 1000000 := by omega
  clear hS hP hn hb hm
  go_enter Try.func90, Try.ntmps90
  go_wp2_with (fail)
  refine H.out.mono ?_
  rintro e w1 ⟨rfl, P', hp1, hp2, hp3, hp4⟩
  have HP := Lib.hid (And.intro hp1 (And.intro hp2 (And.intro hp3 hp4)))
  clear hp1 hp2 hp3 hp4
  go_wp2_with (fail)
  refine bodyPost_end (results_none rfl _ _ _) rfl ?_
  exact ⟨rfl, P', HP.out.1, HP.out.2.1, HP.out.2.2.1, HP.out.2.2.2⟩
end Go.Proofs.Ytfipacfompihkaa
