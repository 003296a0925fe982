/- The walks of hardtackref41's Mix, Letters, Bits, Exact. -/
import Derived.Test.YtjhhhkhcnohmiaaRef41L
namespace Go.Proofs.Ytjhhhkhcnohmiaa
open Go.RowKit Go.Shelf
attribute [local go_sem] Oper.semAt_some

theorem rletters_any (s : ByteArray) (hs : s.size ≤ maxLen) (w : World) : Calls Try.prog 53 #[.string s] w (LettersPost s.data.toList w) := by
  cases hn : isName s.data.toList
  · exact rletters_no s hs hn w
  · exact rletters_yes s hs hn w
theorem letL_name {l : Bs} {k : Nat} (h : k < (letL l).length) : isName l = true := by
  unfold letL at h
  split at h
  · assumption
  · simp at h
theorem letL_len_le (l : Bs) : (letL l).length ≤ l.length := by
  unfold letL
  split
  · exact lp_length_le _ _
  · simp
theorem letL_len255 (l : Bs) : (letL l).length ≤ 255 := by
  by_cases h : isName l = true
  · have := letL_len_le l; have := ((isName_iff l).1 h).1; omega
  · unfold letL; rw [if_neg h]; simp

set_option maxRecDepth 100000 in
theorem rLetters_any (s : ByteArray) (hs : s.size ≤ maxLen) (w : World) :
    Calls Try.prog 16 #[.string s] w fun e w' => e = .returned (.int .i64 ((letL s.data.toList).length : Int)) ∧ Below w.heap.size w w' := by
  have H := Lib.hid (fun W => rletters_any s hs W)
  have hl := letL_len255 s.data.toList
  have hI : ((letL s.data.toList).length : Int) ≤ 255 := by omega
  clear hs hl
  go_enter Try.func16, Try.ntmps16
  go_wp2_with (fail)
  with_reducible refine (H.out _).mono ?_
  rintro e w1 ⟨A, c, rfl, _, hb, _⟩
  go_wp2_with (fail)
  go_ret
  exact ⟨rfl, hb⟩

set_option maxRecDepth 100000 in
theorem rExact_any (a b : ByteArray) (ha : a.size ≤ maxLen) (hb : b.size ≤ maxLen) (w : World) :
    Calls Try.prog 20 #[.string a, .string b] w fun e w' => e = .returned (.bool ((a.toList == b.toList) && isName a.data.toList)) ∧ Below w.heap.size w w' := by
  have HA := Lib.hid (fun W => rCheck_any a ha W)
  have HB := Lib.hid (fun W => rCheck_any b hb W)
  rcases chk_cases a.data.toList with ⟨a1, a2⟩ | ⟨a1, a2⟩
  · rcases chk_cases b.data.toList with ⟨b1, b2⟩ | ⟨b1, b2⟩
    · rw [a1, Bool.and_true]
      cases hq : (a.toList == b.toList)
      all_goals
        rw [a2] at HA
        rw [b2] at HB
        clear a1 a2 b1 b2 ha hb
        go_enter Try.func20, Try.ntmps20
        go_wp2_with (fail)
        with_reducible refine (HA.out _).mono ?_
        rintro e w1 ⟨rfl, hb1⟩
        have HB1 := Lib.hid hb1
        clear hb1
        go_wp2_with (fail)
        with_reducible refine (HB.out _).mono ?_
        rintro e w2 ⟨rfl, hb2⟩
        have HB2 := Lib.hid (HB1.out.trans (hb2.mono HB1.out.size))
        clear hb2
        go_wp2_with (fail)
        go_ret
        exact ⟨rfl, HB2.out⟩
    · have hq : (a.toList == b.toList) = false := by
        rw [beq_eq_false_iff_ne]
        intro h
        rw [ByteArray.toList_eq, ByteArray.toList_eq] at h
        rw [h, b1] at a1
        cases a1
      rw [hq, Bool.false_and]
      rw [a2] at HA
      rw [b2] at HB
      clear a1 a2 b1 b2 ha hb hq
      go_enter Try.func20, Try.ntmps20
      go_wp2_with (fail)
      with_reducible refine (HA.out _).mono ?_
      rintro e w1 ⟨rfl, hb1⟩
      have HB1 := Lib.hid hb1
      clear hb1
      go_wp2_with (fail)
      with_reducible refine (HB.out _).mono ?_
      rintro e w2 ⟨rfl, hb2⟩
      have HB2 := Lib.hid (HB1.out.trans (hb2.mono HB1.out.size))
      clear hb2
      go_wp2_with (fail)
      go_ret
      exact ⟨rfl, HB2.out⟩
  · rw [a1, Bool.and_false]
    rw [a2] at HA
    clear a1 a2 ha hb HB
    go_enter Try.func20, Try.ntmps20
    go_wp2_with (fail)
    with_reducible refine (HA.out _).mono ?_
    rintro e w1 ⟨rfl, hb1⟩
    have HB1 := Lib.hid hb1
    clear hb1
    go_wp2_with (fail)
    go_ret
    exact ⟨rfl, HB1.out⟩

theorem ints_at {l : Bs} {k p : Nat} (hk : k < (letL l).length) (h : (letL l)[k] = (p, k)) : (ints (letL l))[k]? = some (.int .i64 (p : Int)) := by
  unfold ints
  rw [List.getElem?_map, List.getElem?_eq_getElem hk, h]; rfl

set_option maxRecDepth 100000 in
set_option maxHeartbeats 2000000 in
theorem rBits_any (s : ByteArray) (hs : s.size ≤ maxLen) (w : World) :
    Calls Try.prog 18 #[.string s] w fun e w' => e = .returned (.int .u64 (bitsL s.data.toList : Int)) ∧ Below w.heap.size w w' := by
  have H := Lib.hid (fun W => rletters_any s hs W)
  have hl := letL_len255 s.data.toList
  have hI : ((letL s.data.toList).length : Int) ≤ 255 := by omega
  clear hs
  go_enter Try.func18, Try.ntmps18
  go_wp2_with (fail)
  with_reducible refine (H.out _).mono ?_
  rintro e w1 ⟨A, c, rfl, hS, hb, _⟩
  have HS := Lib.hid hS
  have HB := Lib.hid hb
  clear hS hb
  go_wp2_with (fail)
  go_loopg [3, 9] (letL s.data.toList).length (fun g v kk wr => ∃ (k : Nat), g + k = (letL s.data.toList).length ∧ v = .int .u64 (bitsF s.data.toList ((letL s.data.toList).take k) : Int) ∧ kk = .int .i64 (k : Int) ∧ Aside (Below w1.heap.size w1 wr))
  case atStart => exact ⟨0, by omega, rfl, rfl, Below.refl _ _⟩
  case round =>
    obtain ⟨k, hk, rfl, rfl, hbw⟩ := hrel
    by_cases hlt : k < (letL s.data.toList).length
    · have hn := letL_name hlt
      have h255 : s.size ≤ 255 := by have := ((isName_iff _).1 hn).1; simpa using this
      obtain ⟨p, hp, hpl, hpb, _⟩ := outR_next (d := 0) hn hlt
      have hps : p < s.size := by simpa using hpl
      have hpI : (p : Int) < (s.size : Int) := by omega
      have hsI : (s.size : Int) ≤ 255 := by omega
      have hkI : (k : Int) < ((letL s.data.toList).length : Int) := by omega
      obtain ⟨g, cap, hv2, hg, _, _, h4⟩ := HS.out.form (by omega)
      injection hv2 with hA hnn hc3
      clear hnn
      have c0 : wr.cell? ⟨g, k, none⟩ = some (.int .i64 (p : Int)) := (hbw.out.cell (p := ⟨g, k, none⟩) hg).trans (h4 k _ (ints_at hlt hp))
      have hat := at0_byte s p hps
      rw [hat] at hpb
      have hgr := great_le (s[p]'hps) hpb
      have hsn := bitsF_snoc s.data.toList ((letL s.data.toList).take k) (p, k)
      rw [← hp, ← List.take_succ_eq_append_getElem hlt, hp] at hsn
      dsimp only at hsn
      simp only [hat, hgr, decide_eq_true_eq] at hsn
      have hbl := bitsF_lt s.data.toList ((letL s.data.toList).take k)
      have HX := Lib.hid (And.intro hsn (And.intro hlt hbl))
      have hc255 := (s[p]'hps).toNat_lt
      clear h4 HS H hsn hgr hpb hat hp hpl hn hlt hbl
      subst hA hc3
      by_cases h6 : k < 64
      · have h6I : (k : Int) < 64 := by omega
        by_cases hg2 : (s[p]'hps).toNat ≤ 90
        · have hgI : ((s[p]'hps).toNat : Int) ≤ 90 := by omega
          have e1 := HX.out.1
          rw [if_pos ⟨h6, hg2⟩] at e1
          have E1 := Lib.hid e1
          have h2l : 2 ^ k < 18446744073709551616 := Nat.pow_lt_pow_right (n := 64) (by decide) h6
          have hor := bits_or_u64_nat (bitsF s.data.toList ((letL s.data.toList).take k)) (2 ^ k) HX.out.2.2 h2l
          have hval : bits .or .u64 (bitsF s.data.toList ((letL s.data.toList).take k) : Int) (IntKind.u64.wrap (2 ^ k)) = ((bitsF s.data.toList ((letL s.data.toList).take k) ||| 2 ^ k : Nat) : Int) := by
            have e2 : IntKind.u64.wrap (2 ^ k) = ((2 ^ k : Nat) : Int) := by
              rw [IntKind.wrap_u64, Int.natCast_pow]
              have : ((2 : Int) ^ k) < 18446744073709551616 := by
                have h3 : ((2 ^ k : Nat) : Int) < 18446744073709551616 := by omega
                rw [Int.natCast_pow] at h3
                exact h3
              have h0 : (0 : Int) ≤ 2 ^ k := Int.le_of_lt (Int.pow_pos (by decide))
              exact Int.emod_eq_of_lt h0 this
            rw [e2]; exact hor
          have HVal := Lib.hid hval
          clear e1 h2l hor hval h6 hg2
          go_wp2_with (fail)
          go_roundg ((letL s.data.toList).length - (k + 1))
          case measure => have := HX.out.2.1; omega
          case rel =>
            refine ⟨k + 1, by have := HX.out.2.1; omega, ?_, by go_num, hbw.out⟩
            rw [E1.out, HVal.out]
        · have hgI : ¬ ((s[p]'hps).toNat : Int) ≤ 90 := by omega
          have e1 := HX.out.1
          rw [if_neg (fun h => hg2 h.2)] at e1
          have E1 := Lib.hid e1
          clear e1 h6 hg2
          go_wp2_with (fail)
          go_roundg ((letL s.data.toList).length - (k + 1))
          case measure => have := HX.out.2.1; omega
          case rel =>
            refine ⟨k + 1, by have := HX.out.2.1; omega, ?_, by go_num, hbw.out⟩
            rw [E1.out]
      · have h6I : ¬ (k : Int) < 64 := by omega
        have e1 := HX.out.1
        rw [if_neg (fun h => h6 h.1)] at e1
        have E1 := Lib.hid e1
        clear e1 h6
        go_wp2_with (fail)
        go_roundg ((letL s.data.toList).length - (k + 1))
        case measure => have := HX.out.2.1; omega
        case rel =>
          refine ⟨k + 1, by have := HX.out.2.1; omega, ?_, by go_num, hbw.out⟩
          rw [E1.out]
    · obtain rfl : k = (letL s.data.toList).length := by omega
      have e1 : bitsF s.data.toList ((letL s.data.toList).take (letL s.data.toList).length) = bitsL s.data.toList := by rw [List.take_length]; rfl
      rw [e1]
      have HF := Lib.hid (HB.out.trans (hbw.out.mono HB.out.size))
      clear e1 hbw hlt
      go_wp2_with (fail)
      go_ret
      exact ⟨rfl, HF.out⟩
end Go.Proofs.Ytjhhhkhcnohmiaa
