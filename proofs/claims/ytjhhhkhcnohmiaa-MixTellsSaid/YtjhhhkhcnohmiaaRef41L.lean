/- The walk of hardtackref41's letters. -/
import Derived.Test.YtjhhhkhcnohmiaaRef41
namespace Go.Proofs.Ytjhhhkhcnohmiaa
open Go.RowKit

theorem info_i64 : (Try.prog.info? 3).map (fun i => (i.zero, i.size, i.bytes)) = some (some (.int .i64 0), 1, 8) := by kernel_rfl

/-- What letters gives back. -/
def LettersPost (l : Bs) (w : World) (e : Ending) (w' : World) : Prop :=
  ∃ A c, e = .returned (.slice A (letL l).length c) ∧ Sl w' 1 (.slice A (letL l).length c) (letL l).length (ints (letL l)) ∧ Below w.heap.size w w' ∧ ∀ g, (Value.slice A (letL l).length c).ownBlock = some g → w.heap.size ≤ g

set_option maxRecDepth 100000 in
theorem rletters_no (s : ByteArray) (hs : s.size ≤ maxLen) (hn : isName s.data.toList = false) (w : World) : Calls Try.prog 53 #[.string s] w (LettersPost s.data.toList w) := by
  have H := Lib.hid (rSplit_any s hs w)
  have H1 := Lib.hid hn
  clear hn hs
  go_enter Try.func53, Try.ntmps53
  go_wp2_with (fail)
  with_reducible refine (H.out).mono ?_
  rintro e w1 ⟨v, rfl, ⟨A, n, c, rfl⟩, _, hb⟩
  rw [H1.out]
  go_wp2_with (fail)
  go_ret
  have e1 : letL s.data.toList = [] := by unfold letL; rw [if_neg (by rw [H1.out]; simp)]
  refine ⟨none, 0, by rw [e1]; rfl, ?_, hb, fun g hg => by simp [Value.ownBlock] at hg⟩
  rw [e1]
  exact Sl.nil _ 1

theorem strs_at {ls : List Bs} {k : Nat} (h : k < ls.length) : (strs ls)[k]? = some (.string ⟨(ls[k]).toArray⟩) := by
  unfold strs
  rw [List.getElem?_map, List.getElem?_eq_getElem h]; rfl

set_option maxRecDepth 100000 in
set_option maxHeartbeats 2000000 in
theorem rletters_yes (s : ByteArray) (hs : s.size ≤ maxLen) (hn : isName s.data.toList = true) (w : World) : Calls Try.prog 53 #[.string s] w (LettersPost s.data.toList w) := by
  obtain ⟨i0, hi0, hz0, hz1, hz2⟩ := info_parts info_i64
  have H := Lib.hid (rSplit_any s hs w)
  have h255 : s.size ≤ 255 := by have := ((isName_iff _).1 hn).1; simpa using this
  have hsl : s.data.toList.length = s.size := by simp
  have hL : letL s.data.toList = lp s.data.toList s.data.toList.length := by unfold letL; rw [if_pos hn]
  obtain ⟨qe, hqe, hqs, _⟩ := name_end hn
  have hend : letL s.data.toList = lp s.data.toList qe := by
    rw [hL, hsl, ← hqs]
    obtain ⟨q, hq, _, hq1, hq0⟩ := name_end hn
    obtain rfl : q = qe := by rw [hq, hqe]
    exact lp_len (by rw [at0_byte s q hq1, hq0]; omega)
  have HE := Lib.hid (And.intro hqe hend)
  have HL := Lib.hid (And.intro hn hsl)
  clear hn hs hL hqe hend hqs hsl
  go_enter Try.func53, Try.ntmps53
  go_wp2_with (fail)
  with_reducible refine (H.out).mono ?_
  rintro e w1 ⟨v, rfl, ⟨A, nl, cl, rfl⟩, hsl, hb⟩
  have hS1 := hsl HL.out.1
  obtain ⟨A', c', hv, hle, hmax⟩ := hS1.shape
  injection hv with hA1 hn1 hc1
  subst hA1 hn1 hc1
  rw [HL.out.1]
  have HS1 := Lib.hid hS1
  have HB := Lib.hid hb
  have hlen := labs_length_le s.data.toList
  have hlen2 : (labs s.data.toList).1.length ≤ 255 := by have := HL.out.2; omega
  have hlenI : ((labs s.data.toList).1.length : Int) ≤ 255 := by omega
  clear hsl hb hS1 hle hmax hlen
  go_wp2_with (fail)
  go_loopg [5, 6, 20] (labs s.data.toList).1.length (fun g v a kk wr => ∃ (k q : Nat), g + k = (labs s.data.toList).1.length ∧ kk = .int .i64 (k : Int) ∧ a = .int .i64 (q : Int) ∧ Aside (q = pos (labs s.data.toList).1 k) ∧ Aside (Sl wr 1 v (lp s.data.toList q).length (ints (lp s.data.toList q))) ∧ Aside (∀ g, v.ownBlock = some g → w1.heap.size ≤ g) ∧ Aside (Below w1.heap.size w1 wr))
  case atStart => exact ⟨0, 0, by omega, rfl, rfl, (pos_zero _).symm, Sl.nil _ 1, (show Aside _ from fun g hg => by simp [Value.ownBlock] at hg), Below.refl _ _⟩
  case round =>
    obtain ⟨k, q, hk, rfl, rfl, hq, hslo, hown, hbw⟩ := hrel
    by_cases hlt : k < (labs s.data.toList).1.length
    · have hcl : (lp s.data.toList q).length ≤ 255 := by have := lp_length_le s.data.toList q; have := hq.out; have := pos_le (labs s.data.toList).1 k; have := enc_le s.data.toList; have := HL.out.2; omega
      obtain ⟨z, hq1, hw0, hz1', hz2', hz3', hz5⟩ := ends_step s k hlt
      rw [← hq.out] at hq1 hw0 hz1' hz5
      have hcut := cut_bytes (s := s) hlt
      rw [← hq.out, ← hz5] at hcut
      obtain ⟨X, hX⟩ : ∃ X : ByteArray, (⟨((labs s.data.toList).1[k]).toArray⟩ : ByteArray) = X := ⟨_, rfl⟩
      have hXs : X = s.extract (q + 1) (q + 1 + z) := by rw [← hX]; exact hcut.symm
      have hXn : X.size = z := by rw [hXs, ByteArray.size_extract]; omega
      have hat : (at0 s.data.toList q).toNat = z := by rw [at0_byte s q hq1, hw0 hq1]
      have hl1 : lp s.data.toList (q + 1) = lp s.data.toList q := lp_len (by omega)
      have hXat : ∀ i (h : i < X.size), (X[i]'h) = at0 s.data.toList (q + 1 + i) := by
        intro i h
        rw [at0_byte s (q + 1 + i) (by omega)]
        have h3 : i < (s.extract (q + 1) (q + 1 + z)).size := by rw [ByteArray.size_extract]; omega
        have h4 : X[i]'h = (s.extract (q + 1) (q + 1 + z))[i]'h3 := by subst hXs; rfl
        rw [h4]
        exact ByteArray.getElem_extract h3
      obtain ⟨g, cap, hv2, hg, _, _, h4⟩ := HS1.out.form (by omega)
      injection hv2 with hA hnn hc3
      clear hnn
      have c0 : wr.cell? ⟨g, k, none⟩ = some (.string X) := by rw [← hX]; exact (hbw.out.cell (p := ⟨g, k, none⟩) hg).trans (h4 k _ (strs_at hlt))
      clear h4 hXs hX hcut hw0 hat HS1 H
      subst hA hc3
      have hXI : (X.size : Int) = (z : Int) := by omega
      have hki : (k : Int) < ((labs s.data.toList).1.length : Int) := by omega
      have HXat := Lib.hid hXat
      have HN := Lib.hid (And.intro hXn (And.intro hl1 (And.intro hz5 (And.intro hz1' hlt))))
      clear hXat hXn hl1 hz5 hz1' hz2' hz3' hlt
      go_wp2_with (fail)
      go_loopg [5, 9] z (fun gg v ii wr => ∃ (i : Nat), gg + i = z ∧ ii = .int .i64 (i : Int) ∧ Aside (Sl wr 1 v (lp s.data.toList (q + 1 + i)).length (ints (lp s.data.toList (q + 1 + i)))) ∧ Aside (∀ g, v.ownBlock = some g → w1.heap.size ≤ g) ∧ Aside (Below w1.heap.size w1 wr))
      case atStart => exact ⟨0, by omega, rfl, by show Sl _ _ _ _ _; rw [Nat.add_zero, HN.out.2.1]; exact hslo.out, hown.out, hbw.out⟩
      case round =>
        obtain ⟨i, hi, rfl, hsli, howni, hbwi⟩ := hrel
        by_cases hlt2 : i < z
        · have hiX : i < X.size := by have := HN.out.1; omega
          have hiI : (i : Int) < (z : Int) := by omega
          have hb0 := HXat.out i hiX
          have hqb : q + 1 + i ≤ 255 := by have := HN.out.2.2.2.1; omega
          have hqI : (q : Int) + 1 + (i : Int) ≤ 255 := by omega
          have hcl2 : (lp s.data.toList (q + 1 + i)).length ≤ 255 := by have := lp_length_le s.data.toList (q + 1 + i); omega
          have hc255 := (X[i]'hiX).toNat_lt
          have HC2 := Lib.hid (And.intro hcl2 hlt2)
          by_cases hlet : letB (X[i]'hiX) = true
          · have hyes : lp s.data.toList (q + 1 + (i + 1)) = lp s.data.toList (q + 1 + i) ++ [(q + 1 + i, (lp s.data.toList (q + 1 + i)).length)] := lp_yes (show letB (at0 s.data.toList (q + 1 + i)) = true by rw [← hb0]; exact hlet)
            have HY := Lib.hid hyes
            have hT : ((65 : Int) ≤ ((X[i]'hiX).toNat : Int) ∧ ((X[i]'hiX).toNat : Int) ≤ 90) ∨ ((65 : Int) ≤ ((X[i]'hiX).toNat : Int) ∧ ¬ ((X[i]'hiX).toNat : Int) ≤ 90 ∧ (97 : Int) ≤ ((X[i]'hiX).toNat : Int) ∧ ((X[i]'hiX).toNat : Int) ≤ 122) := by
              rw [letB_iff] at hlet
              omega
            have hszw := hbwi.out.size
            clear hyes hlet hb0 hqb hcl2 hlt2
            rcases hT with ⟨h1, h2⟩ | ⟨h1, h2, h3, h4⟩
            all_goals
              go_wp2_with (at_builtin; refine wpList_append_sl _ rfl (.tmp 47) (.tmp 52) 62 62 rfl 3 i0 (.int .i64 0) 1 8 Try.underlying62 hi0 hz0 hz1 hz2 rfl _ (lp s.data.toList (q + 1 + i)).length (ints (lp s.data.toList (q + 1 + i))) rfl (hsli.out.alloc _) _ rfl 1 [.int .i64 ((q : Int) + 1 + (i : Int))] (src_new Try.underlying62 _ _ _ rfl) (by have := HC2.out.1; unfold maxLen; omega) (by have := HC2.out.1; omega) ?_; intro v' w3 hs' hg' hv')
              have hown' := own_from howni.out (by simp; omega) hv'
              have hb1 : Below w1.heap.size w1 w3 := (hbwi.out.alloc hszw _).grown hg' (by simp; omega) howni.out
              go_wp2_with (fail)
              go_roundg (z - (i + 1))
              case measure => omega
              case rel =>
                refine ⟨i + 1, by omega, by go_num, ?_, hown', hb1⟩
                show Sl _ _ _ _ _
                rw [HY.out, ints_snoc, List.length_append]
                have e9 : (((q + 1 + i : Nat)) : Int) = (q : Int) + 1 + (i : Int) := by omega
                dsimp only
                rw [e9]
                exact hs'
          · have hno : lp s.data.toList (q + 1 + (i + 1)) = lp s.data.toList (q + 1 + i) := lp_no (show letB (at0 s.data.toList (q + 1 + i)) = false by rw [← hb0]; simpa using hlet)
            have HY := Lib.hid hno
            have hT : ¬ (65 : Int) ≤ ((X[i]'hiX).toNat : Int) ∧ ¬ (97 : Int) ≤ ((X[i]'hiX).toNat : Int) ∨ ((65 : Int) ≤ ((X[i]'hiX).toNat : Int) ∧ ¬ ((X[i]'hiX).toNat : Int) ≤ 90 ∧ ¬ (97 : Int) ≤ ((X[i]'hiX).toNat : Int)) ∨ ((65 : Int) ≤ ((X[i]'hiX).toNat : Int) ∧ ¬ ((X[i]'hiX).toNat : Int) ≤ 90 ∧ (97 : Int) ≤ ((X[i]'hiX).toNat : Int) ∧ ¬ ((X[i]'hiX).toNat : Int) ≤ 122) := by
              rw [letB_iff] at hlet
              omega
            clear hno hlet hb0 hqb hcl2 hlt2
            rcases hT with ⟨h1, h2⟩ | ⟨h1, h2, h3⟩ | ⟨h1, h2, h3, h4⟩
            all_goals
              go_wp2_with (fail)
              go_roundg (z - (i + 1))
              case measure => have := HC2.out.2; omega
              case rel =>
                refine ⟨i + 1, by have := HC2.out.2; omega, by go_num, ?_, howni.out, hbwi.out⟩
                show Sl _ _ _ _ _
                rw [HY.out]
                exact hsli.out
        · obtain rfl : i = z := by omega
          have hiI : ¬ (i : Int) < (i : Int) := by omega
          have hqb : q + 1 + i ≤ 255 := by have := HN.out.2.2.2.1; omega
          have hqI : (q : Int) + (1 + (i : Int)) ≤ 255 := by omega
          clear hlt2
          go_wp2_with (fail)
          go_roundg ((labs s.data.toList).1.length - (k + 1))
          case measure => have := HN.out.2.2.2.2; omega
          case rel =>
            refine ⟨k + 1, q + 1 + i, by have := HN.out.2.2.2.2; omega, by go_num, by first | rfl | (congr 1; omega), HN.out.2.2.1, hsli.out, howni.out, hbwi.out⟩
    · obtain rfl : k = (labs s.data.toList).1.length := by omega
      have e1 : letL s.data.toList = lp s.data.toList q := by rw [HE.out.2]; congr 1; rw [HE.out.1]; exact hq.out.symm
      have hS := hslo.out
      rw [← e1] at hS
      obtain ⟨A2, c2, rfl, _, _⟩ := hS.shape
      have HF := Lib.hid (And.intro hS (And.intro (HB.out.trans (hbw.out.mono HB.out.size)) (show ∀ g, (Value.slice A2 (letL s.data.toList).length c2).ownBlock = some g → w.heap.size ≤ g from fun g hg => Nat.le_trans HB.out.size (hown.out g hg))))
      clear hS e1 hslo hown hbw hlt
      go_wp2_with (fail)
      go_ret
      exact ⟨A2, c2, rfl, HF.out⟩
end Go.Proofs.Ytjhhhkhcnohmiaa
