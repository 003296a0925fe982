/- The walks of package mix's isLetter and letters, as an iterator. -/
import Derived.Test.YtenmhfhnhfhooaaDoorMixMath
import Derived.Test.YtenmhfhnhfhooaaDoorSame
import Derived.Test.YtenmhfhnhfhooaaDoorRangeN
import Derived.Laws.BitsAll
namespace Go.Proofs.YtenmhfhnhfhooaaDoor
open Go.RowKit Go.Shelf
attribute [local go_sem] Oper.semAt_some

theorem or32 (c : UInt8) : bits .or .u8 (c.toNat : Int) 32 = ((c ||| 32).toNat : Int) := by
  have : ∀ n : Fin 256, bits .or .u8 ((n.val : Nat) : Int) 32 = ((n.val ||| 32 : Nat) : Int) := by decide +kernel
  have h := this ⟨c.toNat, c.toNat_lt⟩
  rw [UInt8.toNat_or]
  exact h
theorem or32_let (c : UInt8) : letB c = (decide (97 ≤ (c ||| 32).toNat) && decide ((c ||| 32).toNat ≤ 122)) := by
  have : ∀ n : Fin 256, ((decide (65 ≤ n.val) && decide (n.val ≤ 90)) || (decide (97 ≤ n.val) && decide (n.val ≤ 122))) = (decide (97 ≤ (n.val ||| 32)) && decide ((n.val ||| 32) ≤ 122)) := by decide +kernel
  have h := this ⟨c.toNat, c.toNat_lt⟩
  rw [UInt8.toNat_or]
  exact h
theorem isLetter_any (c : UInt8) (w : World) : Calls Tryd.prog 29 #[.int .u8 (c.toNat : Int)] w fun e w' => e = .returned (.bool (letB c)) ∧ w = w' := by
  have h1 := or32 c
  rw [or32_let]
  generalize (c ||| 32).toNat = m at h1 ⊢
  have hcase : (97 ≤ m ∧ m ≤ 122) ∨ (97 ≤ m ∧ ¬ m ≤ 122) ∨ ¬ 97 ≤ m := by omega
  rcases hcase with ⟨a, b⟩ | ⟨a, b⟩ | a
  · have a1 : (97 : Int) ≤ (m : Int) := by omega
    have a2 : (m : Int) ≤ 122 := by omega
    go_enter Tryd.func29, Tryd.ntmps29
    go_wp2_with (fail)
    go_ret
    exact ⟨ret_b (by simp [a, b]), rfl⟩
  · have a1 : (97 : Int) ≤ (m : Int) := by omega
    have a2 : ¬ (m : Int) ≤ 122 := by omega
    go_enter Tryd.func29, Tryd.ntmps29
    go_wp2_with (fail)
    go_ret
    exact ⟨ret_b (by simp), rfl⟩
  · have a1 : ¬ (97 : Int) ≤ (m : Int) := by omega
    go_enter Tryd.func29, Tryd.ntmps29
    go_wp2_with (fail)
    go_ret
    exact ⟨ret_b (by simp), rfl⟩

theorem ends_L (n : Nat) (hn : 1 ≤ n) (Bn : Nat) (s : ByteArray) (hs : s.size ≤ maxLen) (w : World) (hB : Bn < w.heap.size) (hc : w.cell? ⟨Bn, 0, none⟩ = some (.string s)) :
    SeqL Fence.wide n Tryd.prog 35 #[.pointer (some ⟨Bn, 0, none⟩)] (fun x : Nat => #[Value.int .i64 (x : Int)]) (fun W W' => W'.cell? ⟨Bn, 0, none⟩ = W.cell? ⟨Bn, 0, none⟩) (endsL s.data.toList) w :=
  fun l J Jx W hW _ _ hY h0 => (ends1_in n hn l Bn s hs J Jx hY W ((hW.cell (p := ⟨Bn, 0, none⟩) hB).trans hc) h0).mono fun _ _ ⟨h1, h2⟩ => ⟨h1, h2.imp (fun ⟨_, e, h⟩ => e ▸ h) id⟩
theorem grown_below {W W' : World} (hb : Below W.heap.size W W') : W.grownBy W' none := ⟨hb.os, hb.tape, hb.output, hb.size, fun i hi _ => hb.block i hi⟩
theorem abides_below {β : Type} {B : Nat} {J : β → World → Prop} (hJ : AbidesFrom B J) {s : β} {W W' : World} (h : J s W) (hb : Below W.heap.size W W') : J s W' := hJ s W W' none h (grown_below hb) (fun _ e => by cases e)

theorem at0_byte (s : ByteArray) (i : Nat) (h : i < s.size) : at0 s.data.toList i = s[i]'h := by
  unfold at0
  rw [List.getElem?_eq_getElem (by simpa using h)]
  rfl
/-- Behind a name's last label stands a 0, and no more. -/
theorem name_end {s : ByteArray} (h : isName s.data.toList = true) : ∃ q, q = pos (labs s.data.toList).1 (labs s.data.toList).1.length ∧ q + 1 = s.size ∧ ∃ hq : q < s.size, (s[q]'hq).toNat = 0 := by
  refine ⟨_, rfl, ?_⟩
  rw [pos_all]
  have h1 := ((isName_iff _).1 h).2
  have he := enc_le s.data.toList
  have hd : s.data.toList = enc (labs s.data.toList).1 ++ [0] := isName_eq h
  have hsz : s.data.toList.length = s.size := by simp
  rw [h1] at he
  simp only [List.length_singleton] at he
  have hq : (enc (labs s.data.toList).1).length < s.size := by omega
  refine ⟨by omega, hq, ?_⟩
  rw [← at0_byte s _ hq]
  unfold at0
  generalize enc (labs s.data.toList).1 = e at hd hq ⊢
  rw [hd]
  simp

theorem letters_in (n : Nat) (s : ByteArray) (w : World) :
    CallsIn Fence.wide n Tryd.prog 16 #[.string s] w fun e w' => e = .returned (.func (.func 28) #[] #[.pointer (some ⟨w.heap.size, 0, none⟩)]) ∧ w' = w.alloc (.cells #[.string s] 9) := by
  refine callsIn_of_wp Tryd.func16 rfl trivial ?_ rfl
  simp only [Tryd.ntmps16, List.size_toArray, List.length_cons, List.length_nil, Nat.reduceAdd, Nat.reduceSub, Array.replicate_succ, Array.replicate_zero, List.push_toArray, List.append_toArray, List.nil_append, List.cons_append]
  gi_wp2
  go_ret
  exact ⟨rfl, rfl⟩

set_option maxRecDepth 100000 in
set_option maxHeartbeats 1000000 in
theorem letters1_in (n : Nat) (hn : 1 ≤ n) (l Bn B0 : Nat) (s : ByteArray) (hs : s.size ≤ maxLen) (J Jx : List (Nat × Nat) → World → Prop) (hJ : AbidesFrom B0 J)
    (hY : ∀ pre (x : Nat × Nat) W, J pre W → pre ++ [x] <+: letL s.data.toList → YieldAt Fence.wide (n - 1) Tryd.prog l #[.int .i64 (x.1 : Int), .int .i64 (x.2 : Int)] W fun e W' =>
      (e = .returned (.bool true) ∧ J (pre ++ [x]) W' ∧ W'.cell? ⟨Bn, 0, none⟩ = W.cell? ⟨Bn, 0, none⟩) ∨ (e = .returned (.bool false) ∧ Jx (pre ++ [x]) W'))
    (W : World) (hBn : W.cell? ⟨Bn, 0, none⟩ = some (.string s)) (h0 : J [] W) :
    CallsIn Fence.wide n Tryd.prog 28 #[.func (.yield l) #[] #[], .pointer (some ⟨Bn, 0, none⟩)] W fun e W' => (∃ v, e = .returned v) ∧
      (J (letL s.data.toList) W' ∨ (∃ pre, pre <+: letL s.data.toList ∧ Jx pre W')) := by
  have hBl : Bn < W.heap.size := by
    rcases Nat.lt_or_ge Bn W.heap.size with h | h
    · exact h
    · unfold World.cell? at hBn
      rw [Array.getElem?_eq_none h] at hBn
      cases hBn
  refine callsIn_of_wp Tryd.func28 rfl trivial ?_ rfl
  simp only [Tryd.ntmps28, List.size_toArray, List.length_cons, List.length_nil, Nat.reduceAdd, Nat.reduceSub, Array.replicate_succ, Array.replicate_zero, List.push_toArray, List.append_toArray, List.nil_append, List.cons_append]
  have hCk := fun W => (callsIn_wide (n := n - 1)).2 (Check_any s hs W)
  rcases chk_cases s.data.toList with ⟨hn1, hn2⟩ | ⟨hn1, hn2⟩
  · rw [hn2] at hCk
    have hL : letL s.data.toList = lp s.data.toList s.data.toList.length := by unfold letL; rw [if_pos hn1]
    rw [hL] at hY ⊢
    have HCk := Lib.hid hCk
    clear hCk hn2 hL
    gi_wp2_with (refine ⟨trivial, ?_⟩; gi_at_call 15; refine (HCk.out _).mono ?_; rintro e w1 ⟨rfl, hb1⟩)
    have hBn1 : w1.cell? ⟨Bn, 0, none⟩ = some (.string s) := (hb1.cell (p := ⟨Bn, 0, none⟩) hBl).trans hBn
    have hJ1 : J [] w1 := abides_below hJ h0 hb1
    have hs1 : (s.size : Int) ≤ 9223372036854775807 := by unfold maxLen at hs; omega
    have h255 : s.size ≤ 255 := by have := ((isName_iff _).1 hn1).1; simpa using this
    have HN := Lib.hid hn1
    clear hn1 hs hb1 HCk hBn h0
    gi_loopg [3, 4] (labs s.data.toList).1.length (fun g ah p wr => ∃ (k q m : Nat), g + k = (labs s.data.toList).1.length ∧ ah = .int .i64 (m : Int) ∧ p = .int .i64 (q : Int) ∧ Aside (q = pos (labs s.data.toList).1 k) ∧ Aside (m = (lp s.data.toList q).length) ∧ Aside (J (lp s.data.toList q) wr) ∧ wr.cell? ⟨Bn, 0, none⟩ = some (.string s))
    case atStart => exact ⟨0, 0, 0, by omega, rfl, rfl, (pos_zero _).symm, rfl, hJ1, hBn1⟩
    case round =>
      obtain ⟨k, q, m, hk, rfl, rfl, hq, hm, hJs, hc⟩ := hrel
      clear hBn1 hJ1
      by_cases hlt : k < (labs s.data.toList).1.length
      · obtain ⟨z, hq1, hw0, hz1, hz2, hz3, hz5⟩ := ends_step s k hlt
        rw [← hq.out] at hq1 hw0 hz1 hz5
        have hq2 : (q : Int) < (s.size : Int) := by omega
        have hwz : ((s[q]'hq1).toNat : Int) = (z : Int) := by rw [hw0 hq1]
        have ht1 : ((z : Int) != 0) = true := by simp only [bne_iff_ne]; omega
        have ht2 : (0 : Int) ≤ (z : Int) := by omega
        have ht3 : (z : Int) ≤ 63 := by omega
        have hat : (at0 s.data.toList q).toNat = z := by rw [at0_byte s q hq1, hw0 hq1]
        have hl1 : lp s.data.toList (q + 1) = lp s.data.toList q := lp_len (by omega)
        have HM := Lib.hid hm.out
        have HZ := Lib.hid hz5
        have HL1 := Lib.hid hl1
        clear hw0 hz5 hl1 hat hm
        have hw64 : wrap64 (z : Int) = (z : Int) := by unfold wrap64; omega
        gi_wp2_with (fail)
        clear hw64
        obtain ⟨wo, rfl⟩ : ∃ wo : World, wo = wr := ⟨_, rfl⟩
        gi_loopg [3, 5] (z + 1) (fun g ah p wr => ∃ (i m' : Nat), Aside (g + i = q + z + 2) ∧ q + 1 ≤ i ∧ i ≤ q + z + 1 ∧ ah = .int .i64 (m' : Int) ∧ p = .int .i64 (i : Int) ∧ Aside (m' = (lp s.data.toList i).length) ∧ Aside (J (lp s.data.toList i) wr) ∧ wr.cell? ⟨Bn, 0, none⟩ = some (.string s))
        case atStart => exact ⟨q + 1, m, (by show z + 1 + (q + 1) = q + z + 2; omega), by omega, by omega, rfl, by simp, by show m = _; rw [HL1.out]; exact HM.out, by show J _ _; rw [HL1.out]; exact hJs.out, hc⟩
        case round =>
          obtain ⟨i, m', hi, hi1, hi0, rfl, rfl, hm', hJi, hci⟩ := hrel
          have HK := Lib.hid hk
          clear hk
          clear hc
          by_cases hli : i ≤ q + z
          · have hi2 : (i : Int) ≤ (q : Int) + (z : Int) := by omega
            have his : i < s.size := by omega
            have hisI : (i : Int) < (s.size : Int) := by omega
            have hb0 := at0_byte s i his
            have hm'b : m' ≤ i := by rw [hm'.out]; exact lp_length_le _ _
            have hm'I : (m' : Int) ≤ 255 := by omega
            have hiI : (i : Int) ≤ 255 := by omega
            have hqI : (q : Int) + (z : Int) ≤ 255 := by omega
            have HB0 := Lib.hid hb0
            clear hb0
            have hLt := fun W => (callsIn_wide (n := n - 1)).2 (isLetter_any (s[i]'his) W)
            have HI : Hid (q + 1 ≤ i ∧ i ≤ q + z ∧ q + 1 + z ≤ s.size ∧ m' ≤ i ∧ s.size ≤ 255) := Lib.hid ⟨hi1, hli, hz1, hm'b, h255⟩
            cases hlet : letB (s[i]'his) with
            | false =>
              rw [hlet] at hLt
              have HLt := Lib.hid hLt
              have hno : lp s.data.toList (i + 1) = lp s.data.toList i := lp_no (by rw [HB0.out]; exact hlet)
              have HNo := Lib.hid hno
              have hw64 : wrap64 (z : Int) = (z : Int) := by unfold wrap64; omega
              clear hLt hno hlet hi1 hi0 hli hm'b h255 hq hlt hm'I hs1 ht2 ht3 hY
              gi_wp2_with (refine ⟨trivial, ?_⟩; gi_at_call 29; refine (HLt.out _).mono ?_; rintro e w' ⟨rfl, rfl⟩)
              clear hw64
              gi_roundg (q + z + 2 - (i + 1))
              case measure => have := hi.out; have := HI.out; omega
              case rel =>
                have hI := HI.out
                exact ⟨i + 1, m', (by show q + z + 2 - (i + 1) + (i + 1) = q + z + 2; omega), by omega, by omega, rfl, by go_num, by show m' = _; rw [HNo.out]; exact hm'.out, by show J _ _; rw [HNo.out]; exact hJi.out, hci⟩
            | true =>
              rw [hlet] at hLt
              have HLt := Lib.hid hLt
              have hyes : lp s.data.toList (i + 1) = lp s.data.toList i ++ [(i, m')] := by rw [lp_yes (by rw [HB0.out]; exact hlet), ← hm'.out]
              obtain ⟨fn, tmps, assign, body, hy, hR⟩ := hY (lp s.data.toList i) (i, m') wr hJi.out (by rw [← hyes]; exact lp_prefix _ (by simp; omega))
              rw [← hyes] at hR
              dsimp only at hy
              have HNo := Lib.hid hyes
              have hw64 : wrap64 (z : Int) = (z : Int) := by unfold wrap64; omega
              clear hLt hyes hlet hi1 hi0 hli hm'b h255 hq hlt hs1 ht2 ht3 hY
              gi_wp2_with (refine ⟨trivial, ?_⟩; gi_at_call 29; refine (HLt.out _).mono ?_; rintro e w' ⟨rfl, rfl⟩)
              refine hR.mono ?_
              rintro e W3 (⟨rfl, hJ3, hk3⟩ | ⟨rfl, hJx3⟩)
              · have hc3 := hk3.trans hci
                have hJ4 : Aside (J (lp s.data.toList (i + 1)) W3) := hJ3
                clear hJ3 hk3
                gi_wp2_with (fail)
                clear hw64
                gi_roundg (q + z + 2 - (i + 1))
                case measure => have := hi.out; have := HI.out; omega
                case rel =>
                  have hI := HI.out
                  exact ⟨i + 1, m' + 1, (by show q + z + 2 - (i + 1) + (i + 1) = q + z + 2; omega), by omega, by omega, by go_num, by go_num, by show m' + 1 = _; rw [HNo.out, List.length_append, ← hm'.out]; rfl, hJ4, hc3⟩
              · gi_wp2_with (fail)
                refine bodyPost_ret (results_none rfl _ _ _) rfl ?_
                refine ⟨⟨_, rfl⟩, .inr ⟨_, ?_, hJx3⟩⟩
                have hI := HI.out
                exact lp_prefix _ (by simp; omega)
          · obtain rfl : i = q + z + 1 := by omega
            have hi2 : ¬ ((q : Int) + (z : Int) + 1 ≤ (q : Int) + (z : Int)) := by omega
            have HI : Hid (k < (labs s.data.toList).1.length) := Lib.hid hlt
            have hqI : (q : Int) + (z : Int) ≤ 255 := by omega
            have hqJ : (q : Int) + (1 + (z : Int)) ≤ 255 := by omega
            have hw64 : wrap64 (z : Int) = (z : Int) := by unfold wrap64; omega
            clear hi1 hi0 hli h255 hq hlt hs1 ht3 hY
            gi_wp2_with (fail)
            clear hw64
            gi_roundg ((labs s.data.toList).1.length - (k + 1))
            case measure => have := HK.out; have := HI.out; omega
            case rel =>
              have e1 : q + z + 1 = q + 1 + z := by omega
              rw [e1] at hm' hJi
              exact ⟨k + 1, q + 1 + z, m', by have := HK.out; have := HI.out; omega, rfl, by congr 1; omega, by show _ = _; exact HZ.out, hm', hJi, hci⟩
      · have hkl : k = (labs s.data.toList).1.length := by omega
        obtain ⟨q', hq', hqs, hq1, hq0⟩ := name_end HN.out
        obtain rfl : q = q' := by rw [hq', hq.out, hkl]
        have hq2 : (q : Int) < (s.size : Int) := by omega
        have hwz : ((s[q]'hq1).toNat : Int) = 0 := by rw [hq0]; rfl
        have hJe : J (lp s.data.toList s.data.toList.length) wr := by
          have h1 : lp s.data.toList s.data.toList.length = lp s.data.toList q := by
            rw [← lp_len (l := s.data.toList) (i := q) (by rw [at0_byte s q hq1, hq0]; omega)]
            rw [show s.data.toList.length = q + 1 by simp; omega]
          rw [h1]; exact hJs.out
        have HJe : Aside (J (lp s.data.toList s.data.toList.length) wr) := hJe
        clear hkl hlt hY hq' hqs hq0 hk hJe hJs hm hq
        gi_wp2_with (fail)
        refine bodyPost_end (results_none rfl _ _ _) rfl ?_
        exact ⟨⟨_, rfl⟩, .inl HJe.out⟩
  · rw [hn2] at hCk
    have hL : letL s.data.toList = [] := by unfold letL; rw [if_neg (by rw [hn1]; simp)]
    rw [hL]
    have HCk := Lib.hid hCk
    clear hCk hn2 hL
    gi_wp2_with (refine ⟨trivial, ?_⟩; gi_at_call 15; refine (HCk.out _).mono ?_; rintro e w1 ⟨rfl, hb1⟩)
    refine bodyPost_ret (results_none rfl _ _ _) rfl ?_
    exact ⟨⟨_, rfl⟩, .inl (abides_below hJ h0 hb1)⟩
end Go.Proofs.YtenmhfhnhfhooaaDoor
