/- The walks of package sip's words, as an iterator. -/
import Derived.Test.YtcphcgkbjlgkiaaWordsMath
import Derived.RangeFuncNested
import Derived.RangeFuncBound
import Derived.RangeFuncCalls
import Derived.RangeFuncLeaves
import Derived.Shelf.Abstract
import Derived.Shelf.RegionOpen
import Derived.Shelf.AbstractIn
import Derived.WalkKit
import Derived.OwnWalkIn
import Derived.TacticsInMore
import Derived.LoopNIn
import Derived.LoopIn
import Derived.Sort.LoopGhostIn
import Derived.Sort.QuietIn
import Derived.Stop.RegionWithIn
namespace Go.Proofs.Ytcphcgkbjlgkiaa
open Go.RowKit Go.Shelf
attribute [local go_sem] Oper.semAt_some

theorem words_in (n : Nat) (s : ByteArray) (w : World) :
    CallsIn Fence.wide n Try.prog 45 #[.string s] w fun e w' => e = .returned (.func (.func 82) #[] #[.pointer (some ⟨w.heap.size, 0, none⟩)]) ∧ w' = w.alloc (.cells #[.string s] 9) := by
  refine callsIn_of_wp Try.func45 rfl trivial ?_ rfl
  simp only [Try.ntmps45, List.size_toArray, List.length_cons, List.length_nil, Nat.reduceAdd, Nat.reduceSub, Array.replicate_succ, Array.replicate_zero, List.push_toArray, List.append_toArray, List.nil_append, List.cons_append]
  gi_wp2
  go_ret
  exact ⟨rfl, rfl⟩

set_option maxRecDepth 100000 in
set_option maxHeartbeats 1000000 in
theorem words1_in (n : Nat) (hn : 1 ≤ n) (l Bn B0 : Nat) (s : ByteArray) (hs : s.size ≤ maxLen) (J Jx : List (BitVec 64) → World → Prop) (hJ : AbidesFrom B0 J)
    (hY : ∀ pre x W, J pre W → pre.length < (wordsB s.data.toList).length → YieldAt Fence.wide (n - 1) Try.prog l #[.int .u64 (U x)] W fun e W' =>
      (e = .returned (.bool true) ∧ J (pre ++ [x]) W' ∧ W'.cell? ⟨Bn, 0, none⟩ = W.cell? ⟨Bn, 0, none⟩) ∨ (e = .returned (.bool false) ∧ Jx (pre ++ [x]) W'))
    (W : World) (hBn : W.cell? ⟨Bn, 0, none⟩ = some (.string s)) (h0 : J [] W) :
    CallsIn Fence.wide n Try.prog 82 #[.func (.yield l) #[] #[], .pointer (some ⟨Bn, 0, none⟩)] W fun e W' => (∃ v, e = .returned v) ∧
      ((∃ ys, ys = wordsB s.data.toList ∧ J ys W') ∨ (∃ pre, pre <+: wordsB s.data.toList ∧ Jx pre W')) := by
  unfold maxLen at hs
  have hs1 : (s.size : Int) ≤ 9223372036854775807 := by omega
  clear hs
  refine callsIn_of_wp Try.func82 rfl trivial ?_ rfl
  simp only [Try.ntmps82, List.size_toArray, List.length_cons, List.length_nil, Nat.reduceAdd, Nat.reduceSub, Array.replicate_succ, Array.replicate_zero, List.push_toArray, List.append_toArray, List.nil_append, List.cons_append]
  gi_wp2
  gi_loopg [3] (s.size / 8) (fun g p wr => ∃ (k : Nat) (r : ByteArray), g + k = s.size / 8 ∧ p = .string r ∧ Aside (r.data.toList = s.data.toList.drop (8 * k)) ∧ Aside (J ((wordsB s.data.toList).take k) wr) ∧ wr.cell? ⟨Bn, 0, none⟩ = some (.string s))
  case atStart => exact ⟨0, s, by omega, rfl, by show s.data.toList = s.data.toList.drop 0; rfl, h0, hBn⟩
  case round =>
    obtain ⟨k, r, hk, rfl, hr, hJs, hc⟩ := hrel
    have hrs : r.size = s.size - 8 * k := by have := congrArg List.length hr.out; simpa using this
    have HR := Lib.hid hrs
    by_cases hlt : k < s.size / 8
    · have h8 : 8 ≤ r.size := by omega
      clear hrs
      have hlen : ((wordsB s.data.toList).take k).length < (wordsB s.data.toList).length := by
        rw [List.length_take, wordsB_length]; simp; omega
      obtain ⟨fn, tmps, assign, body, hy, hR⟩ := hY _ (BitVec.ofNat 64 (lowL (r.data.toList.take 8))) wr hJs.out hlen
      rw [U_ofNat _ (lowL_lt64 _ (by simp; omega))] at hy
      clear hlen hY
      gi_wp2_with (refine ⟨trivial, ?_⟩; gi_at_call 44; refine (callsIn_wide.2 (word_any (r.extract 0 8) (by simp; omega) _)).mono ?_; rintro e w' ⟨rfl, rfl⟩)
      refine hR.mono ?_
      rintro e W3 (⟨rfl, hJ3, hk3⟩ | ⟨rfl, hJx3⟩)
      · have hc3 := hk3.trans hc
        clear hk3
        have E1 : (wordsB s.data.toList).take k ++ [BitVec.ofNat 64 (lowL (r.data.toList.take 8))] = (wordsB s.data.toList).take (k + 1) := by
          rw [wordsB_take _ _ (by simpa using hlt), hr.out]; rfl
        have E := Lib.hid E1
        clear E1
        have hJ4 : Aside (J ((wordsB s.data.toList).take k ++ [BitVec.ofNat 64 (lowL (r.data.toList.take 8))]) W3) := hJ3
        clear hJ3
        gi_wp2
        gi_roundg (s.size / 8 - (k + 1))
        case measure => omega
        case rel =>
          refine ⟨k + 1, r.extract 8 r.size, by omega, rfl, ?_, ?_, hc3⟩
          · show (r.extract 8 r.size).data.toList = s.data.toList.drop (8 * (k + 1))
            rw [extract_rest, hr.out, List.drop_drop]; rfl
          · rw [← E.out]; exact hJ4
      · gi_wp2
        refine bodyPost_ret (results_none rfl _ _ _) rfl ?_
        refine ⟨⟨_, rfl⟩, .inr ⟨_, ?_, hJx3⟩⟩
        have E1 : (wordsB s.data.toList).take k ++ [BitVec.ofNat 64 (lowL (r.data.toList.take 8))] = (wordsB s.data.toList).take (k + 1) := by
          rw [wordsB_take _ _ (by simpa using hlt), hr.out]; rfl
        rw [E1]; exact List.take_prefix _ _
    · obtain rfl : k = s.size / 8 := by omega
      have h8 : r.size < 8 := by omega
      have hge : decide (8 ≤ (r.size : Int)) = false := by simp; omega
      clear hrs
      have hlen : ((wordsB s.data.toList).take (s.size / 8)).length < (wordsB s.data.toList).length := by
        rw [List.length_take, wordsB_length]; simp
      have hJd : J ((wordsB s.data.toList).take (s.size / 8)) wr.drew := hJ _ wr wr.drew none hJs.out ⟨rfl, rfl, rfl, Nat.le_refl _, fun _ _ _ => rfl⟩ (fun r e => by cases e)
      obtain ⟨fn, tmps, assign, body, hy, hR⟩ := hY _ (BitVec.ofNat 64 (wordE s.data.toList)) wr.drew hJd hlen
      rw [U_ofNat _ (wordE_lt _)] at hy
      have hsz : s.data.toList.length = s.size := by simp
      have E1 : bits .or .u64 (lowL r.data.toList : Int) (IntKind.u64.wrap ((s.size : Int) * 72057594037927936)) = (wordE s.data.toList : Int) := by
        have hm := lowE_lt s.data.toList
        rw [hsz] at hm
        rw [hr.out, or_last _ _ hm]
        unfold wordE
        rw [hsz]
      rw [← E1] at hy
      have E2 : (wordsB s.data.toList).take (s.size / 8) ++ [BitVec.ofNat 64 (wordE s.data.toList)] = wordsB s.data.toList := by
        have := wordsB_last s.data.toList
        rw [hsz] at this
        exact this.symm
      rw [E2] at hR
      have hR2 : RoundIn Fence.wide (n - 1) Try.prog l fn tmps assign body wr.drew fun e W' => ∃ b, e = .returned (.bool b) ∧ Aside ((∃ ys, ys = wordsB s.data.toList ∧ J ys W') ∨ (∃ pre, pre <+: wordsB s.data.toList ∧ Jx pre W')) :=
        hR.mono fun e W' h => by
          rcases h with ⟨he, h1, _⟩ | ⟨he, h1⟩
          · exact ⟨true, he, .inl ⟨_, rfl, h1⟩⟩
          · exact ⟨false, he, .inr ⟨_, List.prefix_refl _, h1⟩⟩
      have hws : IntKind.u64.wrap (s.size : Int) = (s.size : Int) := by rw [IntKind.wrap_u64]; omega
      clear E1 E2 hR hlen hsz hJd hY hJ hk HR
      gi_wp2_with (fail)
      gi_region_with (first
        | (refine ⟨trivial, ?_⟩; gi_at_call 44; refine (callsIn_wide.2 (word_any r (by omega) _)).mono ?_; rintro e w' ⟨rfl, rfl⟩)
        | (refine hR2.mono ?_; rintro e W3 ⟨b, rfl, hfin⟩)
        | (refine ⟨trivial, ?_⟩; refine hR2.mono ?_; rintro e W3 ⟨b, rfl, hfin⟩))
      all_goals
        gi_wp2
        go_end0
        exact ⟨⟨_, rfl⟩, hfin⟩
end Go.Proofs.Ytcphcgkbjlgkiaa
