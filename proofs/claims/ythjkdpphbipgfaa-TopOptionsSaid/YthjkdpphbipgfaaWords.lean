/- Plain laws on a text's words: no program in sight. The walks of package sip's words, as an iterator. -/
import Derived.Test.YthjkdpphbipgfaaBytes
import Derived.Lib.Strings
import Derived.Lib.IndexBytes
import Derived.RangeFuncNested
import Derived.RangeFuncBound
import Derived.RangeFuncCalls
import Derived.RangeFuncLeaves
import Derived.Shelf.Abstract
import Derived.Shelf.RegionOpen
import Derived.Shelf.AbstractIn
import Derived.WalkKit
import Derived.OwnWalkIn
import Derived.TacticsInMore
import Derived.LoopNIn
import Derived.LoopIn
import Derived.Sort.LoopGhostIn
import Derived.Sort.QuietIn
import Derived.Stop.RegionWithIn
namespace Go.Proofs.Ythjkdpphbipgfaa
open Go.RowKit

/-- Word i of a text that has it whole; the last one, which tells the length too; all of them. -/
def wordI (l : List UInt8) (i : Nat) : Nat := lowL ((l.drop (8 * i)).take 8)
def wordE (l : List UInt8) : Nat := lowL (l.drop (8 * (l.length / 8))) + (l.length % 256) * 72057594037927936
def wordsL (l : List UInt8) : List Nat := (List.range (l.length / 8)).map (wordI l) ++ [wordE l]
theorem wordsL_length (l : List UInt8) : (wordsL l).length = l.length / 8 + 1 := by simp [wordsL]
theorem wordI_lt (l : List UInt8) (i : Nat) : wordI l i < 18446744073709551616 := lowL_lt64 _ (by simp; omega)
theorem lowE_lt (l : List UInt8) : lowL (l.drop (8 * (l.length / 8))) < 72057594037927936 := by
  have h1 := lowL_lt (l.drop (8 * (l.length / 8)))
  have h2 : 256 ^ (l.drop (8 * (l.length / 8))).length ≤ 256 ^ 7 := Nat.pow_le_pow_right (by omega) (by simp; omega)
  have h3 : 256 ^ 7 = 72057594037927936 := by decide
  omega
theorem wordE_lt (l : List UInt8) : wordE l < 18446744073709551616 := by
  have := lowE_lt l
  unfold wordE; omega
/-- The last word, as the 'or' of its two parts. -/
theorem or_last (m n : Nat) (hm : m < 72057594037927936) :
    bits .or .u64 (m : Int) (IntKind.u64.wrap ((n : Int) * 72057594037927936)) = ((m + (n % 256) * 72057594037927936 : Nat) : Int) := by
  have e1 : IntKind.u64.wrap ((n : Int) * 72057594037927936) = (((n % 256) * 72057594037927936 : Nat) : Int) := by
    rw [IntKind.wrap_u64]; omega
  rw [e1, u64_or_nat _ _ (by omega) (by omega), Nat.or_comm, nat_join 56 _ _ (by omega) (by omega), Nat.add_comm]
theorem words_take (l : List UInt8) (k : Nat) (h : k < l.length / 8) : (wordsL l).take (k + 1) = (wordsL l).take k ++ [wordI l k] := by
  have hk : k < (wordsL l).length := by rw [wordsL_length]; omega
  rw [List.take_succ_eq_append_getElem hk]
  congr 2
  simp [wordsL, h]
theorem words_last (l : List UInt8) : wordsL l = (wordsL l).take (l.length / 8) ++ [wordE l] := by
  have : (wordsL l).take (l.length / 8) = (List.range (l.length / 8)).map (wordI l) := by
    unfold wordsL
    rw [List.take_append_of_le_length (by simp), List.take_of_length_le (by simp)]
  rw [this]; rfl
/-- The words as words of 64 bits. -/
def wordsB (l : List UInt8) : List (BitVec 64) := (wordsL l).map (BitVec.ofNat 64)
theorem wordsB_length (l : List UInt8) : (wordsB l).length = l.length / 8 + 1 := by simp [wordsB, wordsL_length]
theorem wordsB_take (l : List UInt8) (k : Nat) (h : k < l.length / 8) : (wordsB l).take (k + 1) = (wordsB l).take k ++ [BitVec.ofNat 64 (wordI l k)] := by
  unfold wordsB; rw [← List.map_take, words_take l k h, List.map_append, List.map_take]; rfl
theorem wordsB_last (l : List UInt8) : wordsB l = (wordsB l).take (l.length / 8) ++ [BitVec.ofNat 64 (wordE l)] := by
  conv => lhs; unfold wordsB; rw [words_last l, List.map_append, List.map_take]
  rfl
theorem U_ofNat (x : Nat) (h : x < 18446744073709551616) : U (BitVec.ofNat 64 x) = (x : Int) := by
  unfold U; rw [BitVec.toNat_ofNat, Nat.mod_eq_of_lt (by omega)]
theorem extract8 (r : ByteArray) : (r.extract 0 8).data.toList = r.data.toList.take 8 := by simp
theorem extract_rest (r : ByteArray) : (r.extract 8 r.size).data.toList = r.data.toList.drop 8 := by
  simp only [ByteArray.data_extract, Array.toList_extract, List.extract_eq_take_drop]
  exact List.take_of_length_le (by simp)
end Go.Proofs.Ythjkdpphbipgfaa

namespace Go.Proofs.Ythjkdpphbipgfaa
open Go.RowKit Go.Shelf
attribute [local go_sem] Oper.semAt_some

theorem words_in (n : Nat) (s : ByteArray) (w : World) :
    CallsIn Fence.wide n Try.prog 71 #[.string s] w fun e w' => e = .returned (.func (.func 100) #[] #[.pointer (some ⟨w.heap.size, 0, none⟩)]) ∧ w' = w.alloc (.cells #[.string s] 9) := by
  refine callsIn_of_wp Try.func71 rfl trivial ?_ rfl
  simp only [Try.ntmps71, List.size_toArray, List.length_cons, List.length_nil, Nat.reduceAdd, Nat.reduceSub, Array.replicate_succ, Array.replicate_zero, List.push_toArray, List.append_toArray, List.nil_append, List.cons_append]
  gi_wp2
  go_ret
  exact ⟨rfl, rfl⟩

set_option maxRecDepth 100000 in
set_option maxHeartbeats 1000000 in
theorem words1_in (n : Nat) (hn : 1 ≤ n) (l Bn B0 : Nat) (s : ByteArray) (hs : s.size ≤ maxLen) (J Jx : List (BitVec 64) → World → Prop) (hJ : AbidesFrom B0 J)
    (hY : ∀ pre x W, J pre W → pre.length < (wordsB s.data.toList).length → YieldAt Fence.wide (n - 1) Try.prog l #[.int .u64 (U x)] W fun e W' =>
      (e = .returned (.bool true) ∧ J (pre ++ [x]) W' ∧ W'.cell? ⟨Bn, 0, none⟩ = W.cell? ⟨Bn, 0, none⟩) ∨ (e = .returned (.bool false) ∧ Jx (pre ++ [x]) W'))
    (W : World) (hBn : W.cell? ⟨Bn, 0, none⟩ = some (.string s)) (h0 : J [] W) :
    CallsIn Fence.wide n Try.prog 100 #[.func (.yield l) #[] #[], .pointer (some ⟨Bn, 0, none⟩)] W fun e W' => (∃ v, e = .returned v) ∧
      ((∃ ys, ys = wordsB s.data.toList ∧ J ys W') ∨ (∃ pre, pre <+: wordsB s.data.toList ∧ Jx pre W')) := by
  unfold maxLen at hs
  have hs1 : (s.size : Int) ≤ 9223372036854775807 := by omega
  clear hs
  refine callsIn_of_wp Try.func100 rfl trivial ?_ rfl
  simp only [Try.ntmps100, List.size_toArray, List.length_cons, List.length_nil, Nat.reduceAdd, Nat.reduceSub, Array.replicate_succ, Array.replicate_zero, List.push_toArray, List.append_toArray, List.nil_append, List.cons_append]
  gi_wp2
  gi_loopg [3] (s.size / 8) (fun g p wr => ∃ (k : Nat) (r : ByteArray), g + k = s.size / 8 ∧ p = .string r ∧ Aside (r.data.toList = s.data.toList.drop (8 * k)) ∧ Aside (J ((wordsB s.data.toList).take k) wr) ∧ wr.cell? ⟨Bn, 0, none⟩ = some (.string s))
  case atStart => exact ⟨0, s, by omega, rfl, by show s.data.toList = s.data.toList.drop 0; rfl, h0, hBn⟩
  case round =>
    obtain ⟨k, r, hk, rfl, hr, hJs, hc⟩ := hrel
    have hrs : r.size = s.size - 8 * k := by have := congrArg List.length hr.out; simpa using this
    have HR := Lib.hid hrs
    by_cases hlt : k < s.size / 8
    · have h8 : 8 ≤ r.size := by omega
      clear hrs
      have hlen : ((wordsB s.data.toList).take k).length < (wordsB s.data.toList).length := by
        rw [List.length_take, wordsB_length]; simp; omega
      obtain ⟨fn, tmps, assign, body, hy, hR⟩ := hY _ (BitVec.ofNat 64 (lowL (r.data.toList.take 8))) wr hJs.out hlen
      rw [U_ofNat _ (lowL_lt64 _ (by simp; omega))] at hy
      clear hlen hY
      gi_wp2_with (refine ⟨trivial, ?_⟩; gi_at_call 70; refine (callsIn_wide.2 (word_any (r.extract 0 8) (by simp; omega) _)).mono ?_; rintro e w' ⟨rfl, rfl⟩)
      refine hR.mono ?_
      rintro e W3 (⟨rfl, hJ3, hk3⟩ | ⟨rfl, hJx3⟩)
      · have hc3 := hk3.trans hc
        clear hk3
        have E1 : (wordsB s.data.toList).take k ++ [BitVec.ofNat 64 (lowL (r.data.toList.take 8))] = (wordsB s.data.toList).take (k + 1) := by
          rw [wordsB_take _ _ (by simpa using hlt), hr.out]; rfl
        have E := Lib.hid E1
        clear E1
        have hJ4 : Aside (J ((wordsB s.data.toList).take k ++ [BitVec.ofNat 64 (lowL (r.data.toList.take 8))]) W3) := hJ3
        clear hJ3
        gi_wp2
        gi_roundg (s.size / 8 - (k + 1))
        case measure => omega
        case rel =>
          refine ⟨k + 1, r.extract 8 r.size, by omega, rfl, ?_, ?_, hc3⟩
          · show (r.extract 8 r.size).data.toList = s.data.toList.drop (8 * (k + 1))
            rw [extract_rest, hr.out, List.drop_drop]; rfl
          · rw [← E.out]; exact hJ4
      · gi_wp2
        refine bodyPost_ret (results_none rfl _ _ _) rfl ?_
        refine ⟨⟨_, rfl⟩, .inr ⟨_, ?_, hJx3⟩⟩
        have E1 : (wordsB s.data.toList).take k ++ [BitVec.ofNat 64 (lowL (r.data.toList.take 8))] = (wordsB s.data.toList).take (k + 1) := by
          rw [wordsB_take _ _ (by simpa using hlt), hr.out]; rfl
        rw [E1]; exact List.take_prefix _ _
    · obtain rfl : k = s.size / 8 := by omega
      have h8 : r.size < 8 := by omega
      have hge : decide (8 ≤ (r.size : Int)) = false := by simp; omega
      clear hrs
      have hlen : ((wordsB s.data.toList).take (s.size / 8)).length < (wordsB s.data.toList).length := by
        rw [List.length_take, wordsB_length]; simp
      have hJd : J ((wordsB s.data.toList).take (s.size / 8)) wr.drew := hJ _ wr wr.drew none hJs.out ⟨rfl, rfl, rfl, Nat.le_refl _, fun _ _ _ => rfl⟩ (fun r e => by cases e)
      obtain ⟨fn, tmps, assign, body, hy, hR⟩ := hY _ (BitVec.ofNat 64 (wordE s.data.toList)) wr.drew hJd hlen
      rw [U_ofNat _ (wordE_lt _)] at hy
      have hsz : s.data.toList.length = s.size := by simp
      have E1 : bits .or .u64 (lowL r.data.toList : Int) (IntKind.u64.wrap ((s.size : Int) * 72057594037927936)) = (wordE s.data.toList : Int) := by
        have hm := lowE_lt s.data.toList
        rw [hsz] at hm
        rw [hr.out, or_last _ _ hm]
        unfold wordE
        rw [hsz]
      rw [← E1] at hy
      have E2 : (wordsB s.data.toList).take (s.size / 8) ++ [BitVec.ofNat 64 (wordE s.data.toList)] = wordsB s.data.toList := by
        have := wordsB_last s.data.toList
        rw [hsz] at this
        exact this.symm
      rw [E2] at hR
      have hR2 : RoundIn Fence.wide (n - 1) Try.prog l fn tmps assign body wr.drew fun e W' => ∃ b, e = .returned (.bool b) ∧ Aside ((∃ ys, ys = wordsB s.data.toList ∧ J ys W') ∨ (∃ pre, pre <+: wordsB s.data.toList ∧ Jx pre W')) :=
        hR.mono fun e W' h => by
          rcases h with ⟨he, h1, _⟩ | ⟨he, h1⟩
          · exact ⟨true, he, .inl ⟨_, rfl, h1⟩⟩
          · exact ⟨false, he, .inr ⟨_, List.prefix_refl _, h1⟩⟩
      have hws : IntKind.u64.wrap (s.size : Int) = (s.size : Int) := by rw [IntKind.wrap_u64]; omega
      clear E1 E2 hR hlen hsz hJd hY hJ hk HR
      gi_wp2_with (fail)
      gi_region_with (first
        | (refine ⟨trivial, ?_⟩; gi_at_call 70; refine (callsIn_wide.2 (word_any r (by omega) _)).mono ?_; rintro e w' ⟨rfl, rfl⟩)
        | (refine hR2.mono ?_; rintro e W3 ⟨b, rfl, hfin⟩)
        | (refine ⟨trivial, ?_⟩; refine hR2.mono ?_; rintro e W3 ⟨b, rfl, hfin⟩))
      all_goals
        gi_wp2
        go_end0
        exact ⟨⟨_, rfl⟩, hfin⟩
end Go.Proofs.Ythjkdpphbipgfaa
