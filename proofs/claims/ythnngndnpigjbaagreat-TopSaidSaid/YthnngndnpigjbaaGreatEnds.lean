/- The walks of package label's ends, as an iterator, and of Check. The walk of package label's Check. -/
import Derived.Test.YthnngndnpigjbaaGreatRet
import Derived.Test.YthnngndnpigjbaaGreatLabelMath
import Derived.Test.YthnngndnpigjbaaGreatBase
import Derived.Test.YthnngndnpigjbaaGreatChecked
import Derived.RangeFuncNested
import Derived.RangeFuncBound
import Derived.RangeFuncCalls
import Derived.RangeFuncLeaves
import Derived.RangeFuncBox
import Derived.RangeFuncFrom
import Derived.Shelf.Abstract
import Derived.Shelf.RegionOpen
import Derived.Shelf.AbstractIn
import Derived.WalkKit
import Derived.OwnWalkIn
import Derived.TacticsInMore
import Derived.LoopNIn
import Derived.LoopIn
import Derived.Sort.LoopGhostIn
import Derived.Sort.QuietIn
import Derived.Stop.RegionWithIn
import Derived.Laws.BytesString
import Derived.Laws.IdiomStrings
import Derived.OwnWalk
import Derived.Deep.LoopGhost
import Derived.Deep.Light
import Derived.Outline
namespace Go.Proofs.YthnngndnpigjbaaGreat
open Go.RowKit Go.Shelf
attribute [local go_sem] Oper.semAt_some


theorem ends_in (n : Nat) (s : ByteArray) (w : World) :
    CallsIn Fence.wide n Tryz.prog 51 #[.string s] w fun e w' => e = .returned (.func (.func 75) #[] #[.pointer (some ⟨w.heap.size, 0, none⟩)]) ∧ w' = w.alloc (.cells #[.string s] 9) := by
  refine callsIn_of_wp Tryz.func51 rfl trivial ?_ rfl
  simp only [Tryz.ntmps51, List.size_toArray, List.length_cons, List.length_nil, Nat.reduceAdd, Nat.reduceSub, Array.replicate_succ, Array.replicate_zero, List.push_toArray, List.append_toArray, List.nil_append, List.cons_append]
  gi_wp2
  go_ret
  exact ⟨rfl, rfl⟩

/-- A byte of a text, as a number. -/
def byN (s : ByteArray) (k : Nat) : Nat := (s.data.toList[k]?.map UInt8.toNat).getD 0

theorem endsL_snoc {l : Bs} {k : Nat} (h : k < (labs l).1.length) : (endsL l).take k ++ [pos (labs l).1 (k + 1)] = (endsL l).take (k + 1) := by
  have hl : k < (endsL l).length := by rw [endsL_length]; exact h
  rw [List.take_succ_eq_append_getElem hl]
  simp [endsL]
theorem pos_lt {ls : List Bs} {k : Nat} (h : k < ls.length) : pos ls k + 1 + (ls[k]).length ≤ (enc ls).length := by
  rw [← pos_succ h]; exact pos_le _ _
/-- The byte at a label's beginning tells how many follow. -/
theorem ends_step (s : ByteArray) (k : Nat) (h : k < (labs s.data.toList).1.length) :
    ∃ z : Nat, pos (labs s.data.toList).1 k < s.size ∧ (∀ hq : pos (labs s.data.toList).1 k < s.size, (s[pos (labs s.data.toList).1 k]'hq).toNat = z) ∧ pos (labs s.data.toList).1 k + 1 + z ≤ s.size ∧ 1 ≤ z ∧ z ≤ 63 ∧ pos (labs s.data.toList).1 k + 1 + z = pos (labs s.data.toList).1 (k + 1) := by
  have hd := drop_pos s.data.toList k
  have hx : (labs s.data.toList).1[k] ∈ (labs s.data.toList).1 := List.getElem_mem h
  have hok := labs_ok s.data.toList _ hx
  unfold okL at hok
  have hl := pos_lt h
  have he := enc_le s.data.toList
  have hsz : s.data.toList.length = s.size := by simp
  have hq : pos (labs s.data.toList).1 k < s.size := by omega
  rw [List.drop_eq_getElem_cons h] at hd
  refine ⟨(labs s.data.toList).1[k].length, hq, fun _ => ?_, by omega, hok.1, hok.2, (pos_succ h).symm⟩
  have h1 := congrArg List.head? hd
  rw [List.head?_drop] at h1
  simp only [enc, List.cons_append, List.head?_cons] at h1
  have h2 : s.data.toList[pos (labs s.data.toList).1 k]? = some (s[pos (labs s.data.toList).1 k]'hq) := by
    rw [List.getElem?_eq_getElem (by omega)]; rfl
  rw [h2] at h1
  have h3 := Option.some.inj h1
  rw [h3, UInt8.toNat_ofNat']
  omega

/-- Behind the last label: nothing, or what is no label. -/
theorem ends_end (s : ByteArray) : ∃ q, q = pos (labs s.data.toList).1 (labs s.data.toList).1.length ∧
    ((q = s.size ∧ (labs s.data.toList).2 = []) ∨ ∃ (hq : q < s.size) (z : Nat), (s[q]'hq).toNat = z ∧ (z = 0 ∨ 63 < z ∨ s.size ≤ q + z)) := by
  refine ⟨_, rfl, ?_⟩
  have hd := drop_pos s.data.toList (labs s.data.toList).1.length
  have he := enc_le s.data.toList
  have hr := labs_rest s.data.toList
  have hsz : s.data.toList.length = s.size := by simp
  have hp := pos_all (labs s.data.toList).1
  rw [List.drop_length] at hd
  simp only [enc, List.nil_append] at hd
  generalize (labs s.data.toList).1 = ls at hd he hp ⊢
  generalize (labs s.data.toList).2 = r at hd he hr ⊢
  cases r with
  | nil => left; exact ⟨by simp at he; omega, rfl⟩
  | cons c t =>
    right
    simp only [List.length_cons] at he
    have hq : pos ls ls.length < s.size := by omega
    refine ⟨hq, c.toNat, ?_, ?_⟩
    · have h1 := congrArg List.head? hd
      rw [List.head?_drop, List.getElem?_eq_getElem (by omega)] at h1
      have h2 := Option.some.inj h1
      exact congrArg UInt8.toNat h2
    · have h3 : ¬ (okB c t = true) := by simp [show okB c t = false from hr]
      rw [okB_iff] at h3
      by_cases h4 : c = 0
      · left; rw [h4]; rfl
      · by_cases h5 : 63 < c.toNat
        · right; left; exact h5
        · right; right
          have : ¬ c.toNat ≤ t.length := fun h6 => h3 ⟨h4, by omega, h6⟩
          omega

set_option maxRecDepth 100000 in
set_option maxHeartbeats 1000000 in
theorem ends1_in (n : Nat) (hn : 1 ≤ n) (l Bn : Nat) (s : ByteArray) (hs : s.size ≤ maxLen) (J Jx : List Nat → World → Prop)
    (hY : ∀ pre (x : Nat) W, J pre W → pre ++ [x] <+: endsL s.data.toList → YieldAt Fence.wide (n - 1) Tryz.prog l #[.int .i64 (x : Int)] W fun e W' =>
      (e = .returned (.bool true) ∧ J (pre ++ [x]) W' ∧ W'.cell? ⟨Bn, 0, none⟩ = W.cell? ⟨Bn, 0, none⟩) ∨ (e = .returned (.bool false) ∧ Jx (pre ++ [x]) W'))
    (W : World) (hBn : W.cell? ⟨Bn, 0, none⟩ = some (.string s)) (h0 : J [] W) :
    CallsIn Fence.wide n Tryz.prog 75 #[.func (.yield l) #[] #[], .pointer (some ⟨Bn, 0, none⟩)] W fun e W' => (∃ v, e = .returned v) ∧
      ((∃ ys, ys = endsL s.data.toList ∧ J ys W') ∨ (∃ pre, pre <+: endsL s.data.toList ∧ Jx pre W')) := by
  unfold maxLen at hs
  have hs1 : (s.size : Int) ≤ 9223372036854775807 := by omega
  clear hs
  refine callsIn_of_wp Tryz.func75 rfl trivial ?_ rfl
  simp only [Tryz.ntmps75, List.size_toArray, List.length_cons, List.length_nil, Nat.reduceAdd, Nat.reduceSub, Array.replicate_succ, Array.replicate_zero, List.push_toArray, List.append_toArray, List.nil_append, List.cons_append]
  gi_wp2
  gi_loopg [3] (labs s.data.toList).1.length (fun g p wr => ∃ (k q : Nat), g + k = (labs s.data.toList).1.length ∧ p = .int .i64 (q : Int) ∧ Aside (q = pos (labs s.data.toList).1 k) ∧ Aside (J ((endsL s.data.toList).take k) wr) ∧ wr.cell? ⟨Bn, 0, none⟩ = some (.string s))
  case atStart => exact ⟨0, 0, by omega, rfl, (pos_zero _).symm, h0, hBn⟩
  case round =>
    obtain ⟨k, q, hk, rfl, hq, hJs, hc⟩ := hrel
    by_cases hlt : k < (labs s.data.toList).1.length
    · obtain ⟨z, hq1, hw0, hz1, hz2, hz3, hz5⟩ := ends_step s k hlt
      rw [← hq.out] at hq1 hw0 hz1 hz5
      have hq2 : (q : Int) < (s.size : Int) := by omega
      have hw : wrap64 ((s[q]'hq1).toNat : Int) = (z : Int) := by
        rw [hw0 hq1]; unfold wrap64; omega
      have ht1 : ((z : Int) == 0) = false := by simp; omega
      have ht2 : ¬ (63 < (z : Int)) := by omega
      have ht3 : ¬ ((s.size : Int) - (q : Int) ≤ (z : Int)) := by omega
      have hz4 : (q : Int) + (1 + (z : Int)) ≤ 9223372036854775807 := by omega
      have hpre : (endsL s.data.toList).take k ++ [q + 1 + z] = (endsL s.data.toList).take (k + 1) := by
        rw [hz5]; exact endsL_snoc hlt
      obtain ⟨fn, tmps, assign, body, hy, hR⟩ := hY _ (q + 1 + z) wr hJs.out (by rw [hpre]; exact List.take_prefix _ _)
      rw [hpre] at hR
      have e1 : ((q + 1 + z : Nat) : Int) = (q : Int) + (1 + (z : Int)) := by omega
      rw [e1] at hy
      have HZ := Lib.hid hz5
      clear hz5 hw0 hpre hY e1
      gi_wp2_with (fail)
      refine hR.mono ?_
      rintro e W3 (⟨rfl, hJ3, hk3⟩ | ⟨rfl, hJx3⟩)
      · have hc3 := hk3.trans hc
        clear hk3
        have hJ4 : Aside (J ((endsL s.data.toList).take (k + 1)) W3) := hJ3
        clear hJ3
        gi_wp2
        gi_roundg ((labs s.data.toList).1.length - (k + 1))
        case measure => omega
        case rel => exact ⟨k + 1, q + 1 + z, by omega, by congr 1; omega, by rw [HZ.out]; rfl, hJ4, hc3⟩
      · gi_wp2
        refine bodyPost_ret (results_none rfl _ _ _) rfl ?_
        exact ⟨⟨_, rfl⟩, .inr ⟨_, List.take_prefix _ _, hJx3⟩⟩
    · have hkl : k = (labs s.data.toList).1.length := by omega
      have hall : (endsL s.data.toList).take k = endsL s.data.toList := by rw [hkl]; exact List.take_of_length_le (by rw [endsL_length]; exact Nat.le_refl _)
      rw [hall] at hJs
      obtain ⟨q', hq', hend⟩ := ends_end s
      obtain rfl : q = q' := by rw [hq', hq.out, hkl]
      clear hq'
      rcases hend with ⟨h1, h2⟩ | ⟨hq1, z, hz0, h3⟩
      · subst h1
        clear hkl hall hlt hY h2 hk
        gi_wp2_with (fail)
        refine bodyPost_end (results_none rfl _ _ _) rfl ?_
        first | exact ⟨⟨_, rfl⟩, .inl hJs.out⟩ | exact ⟨⟨_, rfl⟩, .inl ⟨_, rfl, hJs.out⟩⟩
      · have hq2 : (q : Int) < (s.size : Int) := by omega
        have hw : wrap64 ((s[q]'hq1).toNat : Int) = (z : Int) := by
          have := (s[q]'hq1).toNat_lt
          rw [hz0] at this ⊢; unfold wrap64; omega
        have hT : ((z : Int) == 0) = true ∨ (((z : Int) == 0) = false ∧ 63 < (z : Int)) ∨ (((z : Int) == 0) = false ∧ ¬ 63 < (z : Int) ∧ (s.size : Int) - (q : Int) ≤ (z : Int)) := by
          rcases h3 with h3 | h3 | h3
          · left; simp [h3]
          · right; left; exact ⟨by simp; omega, by omega⟩
          · by_cases h4 : z = 0
            · left; simp [h4]
            · right
              by_cases h5 : 63 < z
              · left; exact ⟨by simp; omega, by omega⟩
              · right; exact ⟨by simp; omega, by omega, by omega⟩
        clear hkl hall hlt hY h3 hz0 hk
        rcases hT with h1 | ⟨h1, h2⟩ | ⟨h1, h2, h3⟩
        all_goals
          gi_wp2_with (fail)
          refine bodyPost_ret (results_none rfl _ _ _) rfl ?_
          first | exact ⟨⟨_, rfl⟩, .inl hJs.out⟩ | exact ⟨⟨_, rfl⟩, .inl ⟨_, rfl, hJs.out⟩⟩
end Go.Proofs.YthnngndnpigjbaaGreat

namespace Go.Proofs.YthnngndnpigjbaaGreat
open Go.RowKit Go.Shelf
attribute [local go_sem] Oper.semAt_some

theorem prefix_lt {α : Type} {pre L : List α} {x : α} (h : pre ++ [x] <+: L) : pre.length < L.length := by
  have := h.length_le
  simp at this; omega
theorem ends_stops (n : Nat) (hn : 1 ≤ n) (Bn : Nat) (s : ByteArray) (hs : s.size ≤ maxLen) (w : World) (hB : Bn < w.heap.size) (hc : w.cell? ⟨Bn, 0, none⟩ = some (.string s)) :
    SeqStopsK Fence.wide n Tryz.prog 75 #[.pointer (some ⟨Bn, 0, none⟩)] (fun x : Nat => #[Value.int .i64 (x : Int)]) (fun W W' => W'.cell? ⟨Bn, 0, none⟩ = W.cell? ⟨Bn, 0, none⟩)
      (fun ys => ys = endsL s.data.toList) (fun pre => pre <+: endsL s.data.toList) (endsL s.data.toList).length w :=
  fun l J Jx W hW _ _ hY h0 => ends1_in n hn l Bn s hs J Jx (fun pre x W hj hp => hY pre x W hj (prefix_lt hp)) W ((hW.cell (p := ⟨Bn, 0, none⟩) hB).trans hc) h0

/-- Check's answer. -/
def chkN (l : Bs) : Int := if isName l = true then 0 else 2
/-- The last place that came; 0: none came. -/
def lastN (l : List Nat) : Nat := l.getLast?.getD 0
theorem lastN_snoc (l : List Nat) (x : Nat) : lastN (l ++ [x]) = x := by simp [lastN]
theorem lastN_ends (l : Bs) : lastN (endsL l) = (enc (labs l).1).length := by
  unfold lastN endsL
  rw [List.getLast?_map, List.getLast?_range]
  rcases Nat.eq_zero_or_pos (labs l).1.length with h | h
  · have : (labs l).1 = [] := List.eq_nil_of_length_eq_zero h
    rw [if_pos h, this]; rfl
  · rw [if_neg (by omega)]
    simp only [Option.map_some, Option.getD_some]
    rw [show (labs l).1.length - 1 + 1 = (labs l).1.length by omega, pos_all]
theorem isName_last (s : ByteArray) (h0 : 0 < s.size) (h1 : s.size ≤ 255) :
    isName s.data.toList = true ↔ lastN (endsL s.data.toList) = s.size - 1 ∧ ∃ h : s.size - 1 < s.size, (s[s.size - 1]'h).toNat = 0 := by
  have he := enc_le s.data.toList
  have hsz : s.data.toList.length = s.size := by simp
  have hd : s.data.toList = enc (labs s.data.toList).1 ++ (labs s.data.toList).2 := labs_enc _
  rw [isName_iff, lastN_ends]
  have hg : ∀ h : s.size - 1 < s.size, s.data.toList[s.size - 1]? = some (s[s.size - 1]'h) := fun h => by
    rw [List.getElem?_eq_getElem (by omega)]; rfl
  generalize (labs s.data.toList).1 = ls at he hd ⊢
  generalize (labs s.data.toList).2 = r at he hd ⊢
  constructor
  · rintro ⟨_, rfl⟩
    simp at he
    refine ⟨by omega, by omega, ?_⟩
    have := hg (by omega)
    rw [hd, List.getElem?_append_right (by omega), show s.size - 1 - (enc ls).length = 0 by omega] at this
    have h2 := Option.some.inj this
    rw [← h2]; rfl
  · rintro ⟨h2, h3, h4⟩
    refine ⟨by omega, ?_⟩
    match r, he, hd with
    | [c], _, hd =>
      have := hg (by omega)
      rw [hd, List.getElem?_append_right (by omega), show s.size - 1 - (enc ls).length = 0 by omega] at this
      have h5 : c = s[s.size - 1] := Option.some.inj this
      rw [h5, UInt8.toNat_inj.1 (show (s[s.size - 1]'h3).toNat = (0 : UInt8).toNat from h4)]
    | [], he, _ => simp at he; omega
    | _ :: _ :: _, he, _ => simp at he; omega

set_option maxRecDepth 100000 in
set_option maxHeartbeats 1000000 in
theorem Check_in (n : Nat) (hn : 4 ≤ n) (s : ByteArray) (hs : s.size ≤ maxLen) (w : World) :
    CallsIn Fence.wide n Tryz.prog 29 #[.string s] w fun e w' => e = .returned (.int .i64 (chkN s.data.toList)) ∧ Below w.heap.size w w' := by
  unfold maxLen at hs
  have hs1 : (s.size : Int) ≤ 9223372036854775807 := by omega
  have hsz : s.data.toList.length = s.size := by simp
  have h1n : 1 ≤ n := by omega
  have hbad : (s.size = 0 ∨ 255 < s.size) → chkN s.data.toList = 2 := by
    intro h
    unfold chkN
    rw [if_neg]
    intro h2
    have h3 := (isName_iff _).1 h2
    rcases h with h | h
    · have h4 := isName_eq h2
      have := congrArg List.length h4
      simp at this; omega
    · have := h3.1; omega
  by_cases h0 : s.size = 0 ∨ 255 < s.size
  · have HB := Lib.hid (hbad h0)
    have hT : ((s.size : Int) == 0) = true ∨ (((s.size : Int) == 0) = false ∧ 255 < (s.size : Int)) := by
      by_cases h : s.size = 0
      · left; simp [h]
      · right; exact ⟨by simp only [beq_eq_false_iff_ne]; omega, by omega⟩
    clear hbad h0 hsz
    rcases hT with h1 | ⟨h1, h2⟩
    all_goals
      refine callsIn_of_wp_marks Tryz.func29 rfl trivial ?_ rfl
      simp only [Tryz.ntmps29, List.size_toArray, List.length_cons, List.length_nil, Nat.reduceAdd, Nat.reduceSub, Array.replicate_succ, Array.replicate_zero, List.push_toArray, List.append_toArray, List.nil_append, List.cons_append]
      gi_wp2_with (fail)
      refine ⟨_, results_tmp rfl _ _ _, ?_, Below.refl _ _⟩
      rw [HB.out]; rfl
  · have hp1 : 0 < s.size := by omega
    have hp2 : s.size ≤ 255 := by omega
    have hT1 : ((s.size : Int) == 0) = false := by simp only [beq_eq_false_iff_ne]; omega
    have hT2 : ¬ 255 < (s.size : Int) := by omega
    have HL := Lib.hid (isName_last s hp1 hp2)
    clear hbad h0 hsz
    refine callsIn_of_wp_marks Tryz.func29 rfl trivial ?_ rfl
    simp only [Tryz.ntmps29, List.size_toArray, List.length_cons, List.length_nil, Nat.reduceAdd, Nat.reduceSub, Array.replicate_succ, Array.replicate_zero, List.push_toArray, List.append_toArray, List.nil_append, List.cons_append]
    gi_wp2_with (refine ⟨trivial, ?_⟩; gi_at_call 51; refine (ends_in _ s _).mono ?_; rintro e w' ⟨rfl, rfl⟩)
    obtain ⟨W0, hW0⟩ : ∃ W0, (w.alloc (.cells #[.int .i64 0] 3)).alloc (.cells #[.string s] 9) = W0 := ⟨_, rfl⟩
    have hsz0 : W0.heap.size = w.heap.size + 2 := by rw [← hW0]; simp
    have hbW : Below w.heap.size w W0 := by rw [← hW0]; exact ((Below.refl _ _).alloc (Nat.le_refl _) _).alloc (by simp) _
    have hblk : Blk W0 w.heap.size 3 #[.int .i64 0] := by rw [← hW0]; exact (Blk.new w _ _).alloc _
    have hstr : Blk W0 (w.heap.size + 1) 9 #[.string s] := by
      rw [← hW0]
      have := Blk.new (w.alloc (.cells #[.int .i64 0] 3)) 9 #[.string s]
      rw [World.size_alloc] at this
      exact this
    rw [hW0]
    clear hW0
    apply wpIn_rangeFunc_ownF rfl (by omega) (gf := 75) (lb := #[.pointer (some ⟨w.heap.size + 1, 0, none⟩)]) rfl trivial (enters_of Tryz.func75 (by kernel_rfl) rfl)
      (ends_stops (n - 1) (by omega) (w.heap.size + 1) s (by unfold maxLen; omega) W0 (by omega) (hstr.cell 0)) (fun h k => k.trans h) (kp_b (by omega)) (Below.refl _ _) (fun _ => rfl)
      (fun (pre : List Nat) W => (Blk W w.heap.size 3 #[.int .i64 (lastN pre : Int)] ∧ Blk W (w.heap.size + 1) 9 #[.string s]) ∧ Below w.heap.size w W)
      (fun _ _ _ => False)
      (OwnFrom.and (OwnFrom.and ((blk_own _ _ (fun pre : List Nat => #[.int .i64 (lastN pre : Int)])).from _) ((blk_own _ _ (fun _ => #[.string s])).from _)) (ownFrom_below (Nat.le_refl _) (by omega)))
      (fun _ _ _ _ _ h => h.elim)
      ⟨⟨hblk, hstr⟩, hbW⟩
    case hassign =>
      intro l x W K hK
      gi_wp2
      exact hK
    case hbody =>
      rintro l pre x W ⟨⟨hB, hst⟩, hbW⟩ hlen
      have c0 : W.cell? ⟨w.heap.size, 0, none⟩ = some (.int .i64 (lastN pre : Int)) := hB.cell 0
      have f0 := hB.frozen 0
      have hlt := hB.lt
      clear hlen
      gi_wp2_with (fail)
      refine ⟨KeepsOthers.setCell _ _ _, World.cell?_setCell_other _ _ _ _ (by simp), ⟨?_, hst.far (by simp) _⟩, hbW.setCell (p := ⟨w.heap.size, 0, none⟩) (Nat.le_refl _) _⟩
      rw [lastN_snoc]
      exact hB.set_ 0 _
    case hdone =>
      rintro D ys W hD rfl ⟨⟨hB, hst⟩, hbW⟩ hK
      have c0 : W.cell? ⟨w.heap.size, 0, none⟩ = some (.int .i64 (lastN (endsL s.data.toList) : Int)) := hB.cell 0
      have hKb : Below w.heap.size w (W.putObj D (.deferred none)) := hbW.trans (belowK_b (w := w) (Nat.le_refl _) W D _ _ (by omega) hK rfl rfl)
      have hcase : ((((lastN (endsL s.data.toList) : Nat) : Int) != (s.size : Int) - 1) = true ∧ chkN s.data.toList = 2) ∨
          ∃ hq : lastN (endsL s.data.toList) < s.size, ((((lastN (endsL s.data.toList) : Nat) : Int) != (s.size : Int) - 1) = false) ∧
            (((((s[lastN (endsL s.data.toList)]'hq).toNat : Int) != 0) = true ∧ chkN s.data.toList = 2) ∨ ((((s[lastN (endsL s.data.toList)]'hq).toNat : Int) != 0) = false ∧ chkN s.data.toList = 0)) := by
        by_cases h1 : lastN (endsL s.data.toList) = s.size - 1
        · right
          refine ⟨by omega, by simp only [bne_eq_false_iff_eq]; omega, ?_⟩
          by_cases h2 : (s[lastN (endsL s.data.toList)]'(by omega)).toNat = 0
          · right
            refine ⟨by simp [h2], ?_⟩
            unfold chkN
            rw [if_pos (HL.out.2 ⟨h1, by omega, by simpa only [← h1] using h2⟩)]
          · left
            refine ⟨by simp only [bne_iff_ne]; omega, ?_⟩
            unfold chkN
            rw [if_neg]
            intro h3
            obtain ⟨_, _, h4⟩ := HL.out.1 h3
            exact h2 (by simpa only [← h1] using h4)
        · left
          refine ⟨by simp only [bne_iff_ne]; omega, ?_⟩
          unfold chkN
          rw [if_neg]
          intro h3
          exact h1 (HL.out.1 h3).1
      have HKB := Lib.hid hKb
      generalize lastN (endsL s.data.toList) = q at c0 hcase
      clear hB hst hbW hKb
      rcases hcase with ⟨h1, h2⟩ | ⟨hq, h1, ⟨h3, h2⟩ | ⟨h3, h2⟩⟩
      · have HC := Lib.hid h2
        clear h2
        gi_wp2_with (fail)
        refine ⟨by simp, .inl ⟨_, _, rfl, run_takeDeferred hK, _, results_tmp rfl _ _ _, ?_, HKB.out⟩⟩
        rw [HC.out]; rfl
      · have HC := Lib.hid h2
        have hqi : (q : Int) < (s.size : Int) := by omega
        clear h2
        gi_wp2_with (fail)
        refine ⟨by simp, .inl ⟨_, _, rfl, run_takeDeferred hK, _, results_tmp rfl _ _ _, ?_, HKB.out⟩⟩
        rw [HC.out]; rfl
      · have HC := Lib.hid h2
        have hqi : (q : Int) < (s.size : Int) := by omega
        clear h2
        gi_wp2_with (fail)
        refine ⟨by simp, .inl ⟨_, _, rfl, run_takeDeferred hK, _, results_tmp rfl _ _ _, ?_, HKB.out⟩⟩
        rw [HC.out]; rfl
    case hstop =>
      rintro D c pre W hD _ h _
      exact h.elim

theorem Check_any (s : ByteArray) (hs : s.size ≤ maxLen) (w : World) :
    Calls Tryz.prog 29 #[.string s] w fun e w' => e = .returned (.int .i64 (chkN s.data.toList)) ∧ Below w.heap.size w w' :=
  callsIn_wide.1 (Check_in 4 (Nat.le_refl _) s hs w)
end Go.Proofs.YthnngndnpigjbaaGreat
