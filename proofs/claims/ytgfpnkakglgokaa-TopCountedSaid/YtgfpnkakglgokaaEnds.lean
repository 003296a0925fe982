/- The walks of package label's ends, as an iterator, and of Check. -/
import Derived.Test.YtgfpnkakglgokaaRet
import Derived.Test.YtgfpnkakglgokaaLabelMath
import Derived.Test.YtgfpnkakglgokaaBase
import Derived.Test.YtgfpnkakglgokaaChecked
import Derived.RangeFuncNested
import Derived.RangeFuncBound
import Derived.RangeFuncCalls
import Derived.RangeFuncLeaves
import Derived.RangeFuncBox
import Derived.RangeFuncFrom
import Derived.Shelf.Abstract
import Derived.Shelf.RegionOpen
import Derived.Shelf.AbstractIn
import Derived.WalkKit
import Derived.OwnWalkIn
import Derived.TacticsInMore
import Derived.LoopNIn
import Derived.LoopIn
import Derived.Sort.LoopGhostIn
import Derived.Sort.QuietIn
import Derived.Stop.RegionWithIn
import Derived.Laws.BytesString
import Derived.Laws.IdiomStrings
import Derived.OwnWalk
import Derived.Deep.LoopGhost
import Derived.Deep.Light
import Derived.Outline
namespace Go.Proofs.Ytgfpnkakglgokaa
open Go.RowKit Go.Shelf
attribute [local go_sem] Oper.semAt_some


theorem ends_in (n : Nat) (s : ByteArray) (w : World) :
    CallsIn Fence.wide n Try.prog 56 #[.string s] w fun e w' => e = .returned (.func (.func 68) #[] #[.pointer (some ⟨w.heap.size, 0, none⟩)]) ∧ w' = w.alloc (.cells #[.string s] 9) := by
  refine callsIn_of_wp Try.func56 rfl trivial ?_ rfl
  simp only [Try.ntmps56, List.size_toArray, List.length_cons, List.length_nil, Nat.reduceAdd, Nat.reduceSub, Array.replicate_succ, Array.replicate_zero, List.push_toArray, List.append_toArray, List.nil_append, List.cons_append]
  gi_wp2
  go_ret
  exact ⟨rfl, rfl⟩

/-- A byte of a text, as a number. -/
def byN (s : ByteArray) (k : Nat) : Nat := (s.data.toList[k]?.map UInt8.toNat).getD 0

theorem endsL_snoc {l : Bs} {k : Nat} (h : k < (labs l).1.length) : (endsL l).take k ++ [pos (labs l).1 (k + 1)] = (endsL l).take (k + 1) := by
  have hl : k < (endsL l).length := by rw [endsL_length]; exact h
  rw [List.take_succ_eq_append_getElem hl]
  simp [endsL]
theorem pos_lt {ls : List Bs} {k : Nat} (h : k < ls.length) : pos ls k + 1 + (ls[k]).length ≤ (enc ls).length := by
  rw [← pos_succ h]; exact pos_le _ _
/-- The byte at a label's beginning tells how many follow. -/
theorem ends_step (s : ByteArray) (k : Nat) (h : k < (labs s.data.toList).1.length) :
    ∃ z : Nat, pos (labs s.data.toList).1 k < s.size ∧ (∀ hq : pos (labs s.data.toList).1 k < s.size, (s[pos (labs s.data.toList).1 k]'hq).toNat = z) ∧ pos (labs s.data.toList).1 k + 1 + z ≤ s.size ∧ 1 ≤ z ∧ z ≤ 63 ∧ pos (labs s.data.toList).1 k + 1 + z = pos (labs s.data.toList).1 (k + 1) := by
  have hd := drop_pos s.data.toList k
  have hx : (labs s.data.toList).1[k] ∈ (labs s.data.toList).1 := List.getElem_mem h
  have hok := labs_ok s.data.toList _ hx
  unfold okL at hok
  have hl := pos_lt h
  have he := enc_le s.data.toList
  have hsz : s.data.toList.length = s.size := by simp
  have hq : pos (labs s.data.toList).1 k < s.size := by omega
  rw [List.drop_eq_getElem_cons h] at hd
  refine ⟨(labs s.data.toList).1[k].length, hq, fun _ => ?_, by omega, hok.1, hok.2, (pos_succ h).symm⟩
  have h1 := congrArg List.head? hd
  rw [List.head?_drop] at h1
  simp only [enc, List.cons_append, List.head?_cons] at h1
  have h2 : s.data.toList[pos (labs s.data.toList).1 k]? = some (s[pos (labs s.data.toList).1 k]'hq) := by
    rw [List.getElem?_eq_getElem (by omega)]; rfl
  rw [h2] at h1
  have h3 := Option.some.inj h1
  rw [h3, UInt8.toNat_ofNat']
  omega

/-- Behind the last label: nothing, or what is no label. -/
theorem ends_end (s : ByteArray) : ∃ q, q = pos (labs s.data.toList).1 (labs s.data.toList).1.length ∧
    ((q = s.size ∧ (labs s.data.toList).2 = []) ∨ ∃ (hq : q < s.size) (z : Nat), (s[q]'hq).toNat = z ∧ (z = 0 ∨ 63 < z ∨ s.size ≤ q + z)) := by
  refine ⟨_, rfl, ?_⟩
  have hd := drop_pos s.data.toList (labs s.data.toList).1.length
  have he := enc_le s.data.toList
  have hr := labs_rest s.data.toList
  have hsz : s.data.toList.length = s.size := by simp
  have hp := pos_all (labs s.data.toList).1
  rw [List.drop_length] at hd
  simp only [enc, List.nil_append] at hd
  generalize (labs s.data.toList).1 = ls at hd he hp ⊢
  generalize (labs s.data.toList).2 = r at hd he hr ⊢
  cases r with
  | nil => left; exact ⟨by simp at he; omega, rfl⟩
  | cons c t =>
    right
    simp only [List.length_cons] at he
    have hq : pos ls ls.length < s.size := by omega
    refine ⟨hq, c.toNat, ?_, ?_⟩
    · have h1 := congrArg List.head? hd
      rw [List.head?_drop, List.getElem?_eq_getElem (by omega)] at h1
      have h2 := Option.some.inj h1
      exact congrArg UInt8.toNat h2
    · have h3 : ¬ (okB c t = true) := by simp [show okB c t = false from hr]
      rw [okB_iff] at h3
      by_cases h4 : c = 0
      · left; rw [h4]; rfl
      · by_cases h5 : 63 < c.toNat
        · right; left; exact h5
        · right; right
          have : ¬ c.toNat ≤ t.length := fun h6 => h3 ⟨h4, by omega, h6⟩
          omega

set_option maxRecDepth 100000 in
set_option maxHeartbeats 1000000 in
theorem ends1_in (n : Nat) (hn : 1 ≤ n) (l Bn : Nat) (s : ByteArray) (hs : s.size ≤ maxLen) (J Jx : List Nat → World → Prop)
    (hY : ∀ pre (x : Nat) W, J pre W → pre ++ [x] <+: endsL s.data.toList → YieldAt Fence.wide (n - 1) Try.prog l #[.int .i64 (x : Int)] W fun e W' =>
      (e = .returned (.bool true) ∧ J (pre ++ [x]) W' ∧ W'.cell? ⟨Bn, 0, none⟩ = W.cell? ⟨Bn, 0, none⟩) ∨ (e = .returned (.bool false) ∧ Jx (pre ++ [x]) W'))
    (W : World) (hBn : W.cell? ⟨Bn, 0, none⟩ = some (.string s)) (h0 : J [] W) :
    CallsIn Fence.wide n Try.prog 68 #[.func (.yield l) #[] #[], .pointer (some ⟨Bn, 0, none⟩)] W fun e W' => (∃ v, e = .returned v) ∧
      ((∃ ys, ys = endsL s.data.toList ∧ J ys W') ∨ (∃ pre, pre <+: endsL s.data.toList ∧ Jx pre W')) := by
  unfold maxLen at hs
  have hs1 : (s.size : Int) ≤ 9223372036854775807 := by omega
  clear hs
  refine callsIn_of_wp Try.func68 rfl trivial ?_ rfl
  simp only [Try.ntmps68, List.size_toArray, List.length_cons, List.length_nil, Nat.reduceAdd, Nat.reduceSub, Array.replicate_succ, Array.replicate_zero, List.push_toArray, List.append_toArray, List.nil_append, List.cons_append]
  gi_wp2
  gi_loopg [3] (labs s.data.toList).1.length (fun g p wr => ∃ (k q : Nat), g + k = (labs s.data.toList).1.length ∧ p = .int .i64 (q : Int) ∧ Aside (q = pos (labs s.data.toList).1 k) ∧ Aside (J ((endsL s.data.toList).take k) wr) ∧ wr.cell? ⟨Bn, 0, none⟩ = some (.string s))
  case atStart => exact ⟨0, 0, by omega, rfl, (pos_zero _).symm, h0, hBn⟩
  case round =>
    obtain ⟨k, q, hk, rfl, hq, hJs, hc⟩ := hrel
    by_cases hlt : k < (labs s.data.toList).1.length
    · obtain ⟨z, hq1, hw0, hz1, hz2, hz3, hz5⟩ := ends_step s k hlt
      rw [← hq.out] at hq1 hw0 hz1 hz5
      have hq2 : (q : Int) < (s.size : Int) := by omega
      have hw : wrap64 ((s[q]'hq1).toNat : Int) = (z : Int) := by
        rw [hw0 hq1]; unfold wrap64; omega
      have ht1 : ((z : Int) == 0) = false := by simp; omega
      have ht2 : ¬ (63 < (z : Int)) := by omega
      have ht3 : ¬ ((s.size : Int) - (q : Int) ≤ (z : Int)) := by omega
      have hz4 : (q : Int) + (1 + (z : Int)) ≤ 9223372036854775807 := by omega
      have hpre : (endsL s.data.toList).take k ++ [q + 1 + z] = (endsL s.data.toList).take (k + 1) := by
        rw [hz5]; exact endsL_snoc hlt
      obtain ⟨fn, tmps, assign, body, hy, hR⟩ := hY _ (q + 1 + z) wr hJs.out (by rw [hpre]; exact List.take_prefix _ _)
      rw [hpre] at hR
      have e1 : ((q + 1 + z : Nat) : Int) = (q : Int) + (1 + (z : Int)) := by omega
      rw [e1] at hy
      have HZ := Lib.hid hz5
      clear hz5 hw0 hpre hY e1
      gi_wp2_with (fail)
      refine hR.mono ?_
      rintro e W3 (⟨rfl, hJ3, hk3⟩ | ⟨rfl, hJx3⟩)
      · have hc3 := hk3.trans hc
        clear hk3
        have hJ4 : Aside (J ((endsL s.data.toList).take (k + 1)) W3) := hJ3
        clear hJ3
        gi_wp2
        gi_roundg ((labs s.data.toList).1.length - (k + 1))
        case measure => omega
        case rel => exact ⟨k + 1, q + 1 + z, by omega, by congr 1; omega, by rw [HZ.out]; rfl, hJ4, hc3⟩
      · gi_wp2
        refine bodyPost_ret (results_none rfl _ _ _) rfl ?_
        exact ⟨⟨_, rfl⟩, .inr ⟨_, List.take_prefix _ _, hJx3⟩⟩
    · have hkl : k = (labs s.data.toList).1.length := by omega
      have hall : (endsL s.data.toList).take k = endsL s.data.toList := by rw [hkl]; exact List.take_of_length_le (by rw [endsL_length]; exact Nat.le_refl _)
      rw [hall] at hJs
      obtain ⟨q', hq', hend⟩ := ends_end s
      obtain rfl : q = q' := by rw [hq', hq.out, hkl]
      clear hq'
      rcases hend with ⟨h1, h2⟩ | ⟨hq1, z, hz0, h3⟩
      · subst h1
        clear hkl hall hlt hY h2 hk
        gi_wp2_with (fail)
        refine bodyPost_end (results_none rfl _ _ _) rfl ?_
        first | exact ⟨⟨_, rfl⟩, .inl hJs.out⟩ | exact ⟨⟨_, rfl⟩, .inl ⟨_, rfl, hJs.out⟩⟩
      · have hq2 : (q : Int) < (s.size : Int) := by omega
        have hw : wrap64 ((s[q]'hq1).toNat : Int) = (z : Int) := by
          have := (s[q]'hq1).toNat_lt
          rw [hz0] at this ⊢; unfold wrap64; omega
        have hT : ((z : Int) == 0) = true ∨ (((z : Int) == 0) = false ∧ 63 < (z : Int)) ∨ (((z : Int) == 0) = false ∧ ¬ 63 < (z : Int) ∧ (s.size : Int) - (q : Int) ≤ (z : Int)) := by
          rcases h3 with h3 | h3 | h3
          · left; simp [h3]
          · right; left; exact ⟨by simp; omega, by omega⟩
          · by_cases h4 : z = 0
            · left; simp [h4]
            · right
              by_cases h5 : 63 < z
              · left; exact ⟨by simp; omega, by omega⟩
              · right; exact ⟨by simp; omega, by omega, by omega⟩
        clear hkl hall hlt hY h3 hz0 hk
        rcases hT with h1 | ⟨h1, h2⟩ | ⟨h1, h2, h3⟩
        all_goals
          gi_wp2_with (fail)
          refine bodyPost_ret (results_none rfl _ _ _) rfl ?_
          first | exact ⟨⟨_, rfl⟩, .inl hJs.out⟩ | exact ⟨⟨_, rfl⟩, .inl ⟨_, rfl, hJs.out⟩⟩
end Go.Proofs.Ytgfpnkakglgokaa
