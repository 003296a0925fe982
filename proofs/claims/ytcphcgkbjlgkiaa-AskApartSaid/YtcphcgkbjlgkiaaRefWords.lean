/- The reference's words: its walk. -/
import Derived.Test.YtcphcgkbjlgkiaaWordsC
import Derived.Test.YtcphcgkbjlgkiaaBytes
namespace Go.Proofs.Ytcphcgkbjlgkiaa
open Go.RowKit

theorem u8v_ofNat (x : Nat) (h : x < 18446744073709551616) : u8v (BitVec.ofNat 64 x) = .int .u64 (x : Int) := by
  unfold u8v; rw [U_ofNat x h]

set_option maxRecDepth 100000 in
set_option maxHeartbeats 1000000 in
theorem rwords_any (s : ByteArray) (hs : s.size ≤ 140737488351232) (w : World) :
    Calls Try.prog 107 #[.string s] w fun e w' => ∃ v, e = .returned v ∧ w'.ownsRow w.heap.size 29 1 v (wordsB s.data.toList).length ((wordsB s.data.toList).map u8v) ∧ Below w.heap.size w w' := by
  obtain ⟨i0, hi, hz0, hz1, hz2⟩ := info_parts info_u64
  have hs1 : (s.size : Int) ≤ 140737488351232 := by omega
  clear hs
  go_enter Try.func107, Try.ntmps107
  go_wp2
  go_loopg [0, 3] (s.size / 8) (fun g p v wr => ∃ (k : Nat) (r : ByteArray), g + k = s.size / 8 ∧ p = .string r ∧ Aside (r.data.toList = s.data.toList.drop (8 * k)) ∧ wr.ownsRow w.heap.size 29 1 v k (((wordsB s.data.toList).take k).map u8v) ∧ Below w.heap.size w wr)
  case atStart => exact ⟨0, s, by omega, rfl, by show s.data.toList = s.data.toList.drop 0; rfl, ⟨by simp, .inl ⟨rfl, rfl⟩⟩, Below.refl _ _⟩
  case round =>
    obtain ⟨k, r, hk, rfl, hr, hown, hb⟩ := hrel
    have hrs : r.size = s.size - 8 * k := by have := congrArg List.length hr.out; simpa using this
    have HR := Lib.hid hrs
    have hge := own_ge hown
    have hG := Lib.hid hge
    clear hge
    have hsz := hb.size
    by_cases hlt : k < s.size / 8
    · have h8 : 8 ≤ r.size := by omega
      have h8i : (8 : Int) ≤ (r.size : Int) := by omega
      clear hrs
      go_wp2_with (fail)
      refine (low_any (r.extract 0 8) (by simp; omega) _).mono ?_
      rintro e w' ⟨rfl, rfl⟩
      rw [extract8]
      have hx := lowL_lt64 (r.data.toList.take 8) (by simp; omega)
      have E1 : (wordsB s.data.toList).take (k + 1) = (wordsB s.data.toList).take k ++ [BitVec.ofNat 64 (lowL (r.data.toList.take 8))] := by
        rw [wordsB_take _ _ (by simpa using hlt), hr.out]; rfl
      have E := Lib.hid E1
      clear E1
      have HXB := Lib.hid hx
      clear hx
      generalize lowL (r.data.toList.take 8) = x at E HXB ⊢
      go_wp2_with (at_builtin; refine wpList_append_own _ rfl (.tmp 10) (.tmp 14) 161 rfl w.heap.size 29 i0 (.int .u64 0) 1 8 Try.underlying161 hi hz0 hz1 hz2 rfl (by decide) _ _ _ rfl (hown.alloc _) ⟨wr.heap.size, 0, none⟩ 1 1 [.int .u64 (x : Int)] rfl rfl (cell_one_new _ _ _) ?c2 ?c3 ?c4 ?c5 ?_)
      case c2 => simp [Value.oneCell']
      case c3 => unfold maxLen; omega
      case c4 => omega
      case c5 => simp; omega
      intro v' w1 hown' hgrow _
      have hb1 := (hb.alloc hb.size (.cells #[.int .u64 (x : Int)] 29)).grown hgrow (by simp; omega) hG.out
      clear hgrow
      go_wp2
      go_roundg (s.size / 8 - (k + 1))
      case measure => omega
      case rel =>
        refine ⟨k + 1, r.extract 8 r.size, by omega, rfl, ?_, ?_, hb1⟩
        · show (r.extract 8 r.size).data.toList = s.data.toList.drop (8 * (k + 1))
          rw [extract_rest, hr.out, List.drop_drop]; rfl
        · rw [E.out, List.map_append, List.map_take]
          rw [← u8v_ofNat x HXB.out] at hown'
          exact hown'
    · obtain rfl : k = s.size / 8 := by omega
      have h8 : r.size < 8 := by omega
      have hge : decide (8 ≤ (r.size : Int)) = false := by simp; omega
      clear hrs
      go_wp2_with (fail)
      refine (low_any r (by omega) _).mono ?_
      rintro e w' ⟨rfl, rfl⟩
      have hsl : s.data.toList.length = s.size := by simp
      have hm := lowE_lt s.data.toList
      have hE : wordE s.data.toList = lowL (r.data.toList) + s.size % 256 * 72057594037927936 := by
        unfold wordE; rw [hr.out, hsl]
      rw [hsl, ← hr.out] at hm
      have E1 := wordsB_last s.data.toList
      rw [hsl] at E1
      have HE := Lib.hid hE
      have HE1 := Lib.hid E1
      clear hE E1 hsl
      generalize lowL (r.data.toList) = x at HE hm ⊢
      have hm1 : (x : Int) < 72057594037927936 := by omega
      clear hm
      generalize hz : (x : Int) + (s.size : Int) % 256 * 72057594037927936 = z
      have hzb : 0 ≤ z ∧ z ≤ 18446744073709551615 := by omega
      have HZ := Lib.hid hz
      go_wp2_with (at_builtin; refine wpList_append_own _ rfl (.tmp 18) (.tmp 26) 161 rfl w.heap.size 29 i0 (.int .u64 0) 1 8 Try.underlying161 hi hz0 hz1 hz2 rfl (by decide) _ _ _ rfl (hown.alloc _) ⟨wr.heap.size, 0, none⟩ 1 1 [.int .u64 z] rfl rfl (cell_one_new _ _ _) ?c2 ?c3 ?c4 ?c5 ?_)
      case c2 => simp [Value.oneCell']
      case c3 => unfold maxLen; omega
      case c4 => omega
      case c5 => simp; omega
      intro v' w1 hown' hgrow _
      have hb1 := (hb.alloc hb.size (.cells #[.int .u64 z] 29)).grown hgrow (by simp; omega) hG.out
      clear hgrow
      go_wp2
      go_ret
      refine ⟨v', rfl, ?_, hb1⟩
      have e1 : z = (wordE s.data.toList : Int) := by rw [HE.out, ← HZ.out]; omega
      rw [e1, ← u8v_ofNat _ (wordE_lt _)] at hown'
      rw [wordsB_length]
      have e2 : s.data.toList.length / 8 + 1 = s.size / 8 + 1 := by simp
      rw [e2, HE1.out, List.map_append, List.map_take]
      exact hown'
end Go.Proofs.Ytcphcgkbjlgkiaa
