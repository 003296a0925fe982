/- The walks of the reference's Split, Check and Fold (hardtackref01). -/
import Derived.Test.YthjkdpphbipgfaaRef01E
import Derived.Test.YthjkdpphbipgfaaCount
import Derived.Test.YthjkdpphbipgfaaSl
namespace Go.Proofs.Ythjkdpphbipgfaa
open Go.RowKit

/-- Texts in memory. -/
def strs (ls : List Bs) : List Value := ls.map fun x => .string ⟨x.toArray⟩
theorem strs_snoc (ls : List Bs) (x : Bs) : strs (ls ++ [x]) = strs ls ++ [.string ⟨x.toArray⟩] := by simp [strs]
theorem info_str : (Try.prog.info? 9).map (fun i => (i.zero, i.size, i.bytes)) = some (some (.string ⟨#[]⟩), 1, 16) := by kernel_rfl
/-- What Split gives back. -/
def SplitPost (l : Bs) (w : World) (e : Ending) (w' : World) : Prop :=
  ∃ v, e = .returned (.tuple #[v, .bool (isName l)]) ∧ (∃ A n c, v = .slice A n c) ∧ (isName l = true → Sl w' 1 v (labs l).1.length (strs (labs l).1)) ∧ Below w.heap.size w w'

set_option maxRecDepth 100000 in
set_option maxHeartbeats 2000000 in
theorem rSplit_any (s : ByteArray) (hs : s.size ≤ maxLen) (w : World) : Calls Try.prog 82 #[.string s] w (SplitPost s.data.toList w) := by
  obtain ⟨i0, hi, hz0, hz1, hz2⟩ := info_parts info_str
  unfold maxLen at hs
  have hs1 : (s.size : Int) ≤ 9223372036854775807 := by omega
  have hsl : s.data.toList.length = s.size := by simp
  by_cases h255 : 255 < s.size
  · have hb : (255 : Int) < (s.size : Int) := by omega
    have hno : isName s.data.toList = false := by
      rw [Bool.eq_false_iff]
      intro h
      have := ((isName_iff _).1 h).1
      omega
    have HN := Lib.hid hno
    clear hno h255 hsl hs
    go_enter Try.func82, Try.ntmps82
    go_wp2_with (fail)
    go_ret2
    exact ⟨.slice none 0 0, by rw [HN.out]; rfl, ⟨_, _, _, rfl⟩, fun h => absurd h (by rw [HN.out]; simp), (Below.refl _ _).alloc (Nat.le_refl _) _⟩
  · have hb : ¬ (255 : Int) < (s.size : Int) := by omega
    have hb2 : (s.size : Int) ≤ 255 := by omega
    have HS := Lib.hid (And.intro hsl (show s.size ≤ 255 by omega))
    clear h255 hsl hs hs1
    go_enter Try.func82, Try.ntmps82
    go_wp2_with (fail)
    go_loopg [4, 5] (labs s.data.toList).1.length (fun g v a wr => ∃ (k q : Nat), g + k = (labs s.data.toList).1.length ∧ a = .int .i64 (q : Int) ∧ Aside (q = pos (labs s.data.toList).1 k) ∧ Aside (Sl wr 1 v k (strs ((labs s.data.toList).1.take k))) ∧ Aside (∀ g, v.ownBlock = some g → w.heap.size ≤ g) ∧ Aside (Below w.heap.size w wr))
    case atStart => exact ⟨0, 0, by omega, rfl, (pos_zero _).symm, sl_empty w _, (show Aside _ from fun g hg => by simp [Value.ownBlock] at hg; omega), (Below.refl _ _).alloc (Nat.le_refl _) _⟩
    case round =>
      obtain ⟨k, q, hk, rfl, hq, hsl, hown, hbw⟩ := hrel
      by_cases hlt : k < (labs s.data.toList).1.length
      · obtain ⟨z, hq1, hw0, hz1', hz2', hz3', hz5⟩ := ends_step s k hlt
        rw [← hq.out] at hq1 hw0 hz1' hz5
        have hcut := cut_bytes (s := s) hlt
        rw [← hq.out, ← hz5] at hcut
        have hq2 : (q : Int) < (s.size : Int) := by omega
        have hw : wrap64 ((s[q]'hq1).toNat : Int) = (z : Int) := by rw [hw0 hq1]; unfold wrap64; omega
        have ht1 : ((z : Int) == 0) = false := by simp; omega
        have ht2 : ¬ (63 < (z : Int)) := by omega
        have ht3 : ¬ ((s.size : Int) < (q : Int) + 1 + (z : Int)) := by omega
        have g1 : (q : Int) + 1 ≤ (q : Int) + 1 + (z : Int) := by omega
        have g2 : (q : Int) + 1 + (z : Int) ≤ (s.size : Int) := by omega
        have hsnoc : strs ((labs s.data.toList).1.take (k + 1)) = strs ((labs s.data.toList).1.take k) ++ [.string ⟨((labs s.data.toList).1[k]).toArray⟩] := by
          rw [List.take_succ_eq_append_getElem hlt, strs_snoc]
        have hkb : k ≤ 255 := by have := labs_length_le s.data.toList; have := HS.out; omega
        have hslice : ∀ W : World, (Instr.slice 9 (.string s) (some (.int .i64 ((q : Int) + 1))) (some (.int .i64 ((q : Int) + 1 + (z : Int)))) none).run Try.prog W = .ok (.string (s.extract (q + 1) (q + 1 + z))) W := slice_nat Try.underlying9 s (q + 1) (q + 1 + z) _ _ (by omega) (by omega) (by omega) (by omega)
        have HZ := Lib.hid (And.intro hz5 (And.intro hsnoc (And.intro hcut hkb)))
        have hszw := hbw.out.size
        clear hz5 hw0 hcut hsnoc hkb hz1' hz2' hz3'
        go_wp2_with (at_builtin; refine wpList_append_sl _ rfl (.tmp 38) (.tmp 47) 83 83 rfl 9 i0 (.string ⟨#[]⟩) 1 16 Try.underlying83 hi hz0 hz1 hz2 rfl u4 k (strs ((labs s.data.toList).1.take k)) rfl (hsl.out.alloc _) _ rfl 1 [.string (s.extract (q + 1) (q + 1 + z))] (src_new Try.underlying83 wr _ _ rfl) (by have := HZ.out.2.2.2; unfold maxLen; omega) (by have := HZ.out.2.2.2; omega) ?_; intro v' w1 hs' hg' hv')
        have hown' := own_from hown.out (by simp; omega) hv'
        have hb1 : Below w.heap.size w w1 := (hbw.out.alloc hszw _).grown hg' (by simp; omega) hown.out
        go_wp2_with (fail)
        go_roundg ((labs s.data.toList).1.length - (k + 1))
        case measure => omega
        case rel =>
          refine ⟨k + 1, q + 1 + z, by omega, by first | rfl | (congr 1; omega), HZ.out.1, ?_, hown', hb1⟩
          show Sl _ _ _ _ _
          rw [HZ.out.2.1, ← HZ.out.2.2.1]
          exact hs'
      · obtain rfl : k = (labs s.data.toList).1.length := by omega
        have htk : (labs s.data.toList).1.take (labs s.data.toList).1.length = (labs s.data.toList).1 := List.take_length
        rw [htk] at hsl
        have hr := drop_pos s.data.toList (labs s.data.toList).1.length
        rw [← hq.out, List.drop_length] at hr
        simp only [enc, List.nil_append] at hr
        have hqle : q ≤ s.size := by
          have h1 := pos_le (labs s.data.toList).1 (labs s.data.toList).1.length
          have h2 := enc_le s.data.toList
          have := HS.out.1
          have := hq.out
          omega
        obtain ⟨A, c, rfl, _, _⟩ := hsl.out.shape
        obtain ⟨q', hq', hend⟩ := ends_end s
        obtain rfl : q = q' := by rw [hq', hq.out]
        clear hq' hlt htk hk
        have hrl := congrArg List.length hr
        rw [List.length_drop, HS.out.1] at hrl
        rcases hend with ⟨h1, h2⟩ | ⟨hq1, z, hz0', h3⟩
        · have hno : isName s.data.toList = false := by
            rw [Bool.eq_false_iff]; intro h
            have := ((isName_iff _).1 h).2
            rw [h2] at this; cases this
          have HN := Lib.hid hno
          have h1' : ¬ (q : Int) < (s.size : Int) := by omega
          clear h1 h2 hno hr hrl hqle
          go_wp2_with (fail)
          go_ret2
          exact ⟨.slice none 0 0, by rw [HN.out]; rfl, ⟨_, _, _, rfl⟩, fun h => absurd h (by rw [HN.out]; simp), hbw.out⟩
        · have hq2 : (q : Int) < (s.size : Int) := by omega
          have hhead : (labs s.data.toList).2.head? = some (s[q]'hq1) := by
            rw [← hr, List.head?_drop, List.getElem?_eq_getElem (by have := HS.out.1; omega)]; rfl
          by_cases hz : z = 0
          · subst hz
            have hs0 : (s[q]'hq1) = 0 := UInt8.toNat_inj.1 hz0'
            have hname : isName s.data.toList = ((q : Int) == (s.size : Int) - 1) := by
              rw [Bool.eq_iff_iff, isName_iff, beq_iff_eq]
              constructor
              · rintro ⟨_, h⟩
                rw [h] at hrl
                simp at hrl
                omega
              · intro h
                refine ⟨by have := HS.out; omega, ?_⟩
                have hl1 : (labs s.data.toList).2.length = 1 := by omega
                match hrr : (labs s.data.toList).2, hl1, hhead with
                | [c], _, hh =>
                  have : c = s[q]'hq1 := Option.some.inj hh
                  rw [this, hs0]
            have HN := Lib.hid hname
            have b1 : (0 : Int) ≤ (s.size : Int) - 1 := by omega
            have hw : wrap64 ((s[q]'hq1).toNat : Int) = 0 := by
              have := (s[q]'hq1).toNat_lt
              rw [hz0'] at this ⊢; unfold wrap64; omega
            clear hname hs0 hhead hr hrl hqle h3 hz0'
            go_wp2_with (fail)
            go_ret2
            exact ⟨_, by rw [HN.out]; rfl, ⟨_, _, _, rfl⟩, fun _ => hsl.out, hbw.out⟩
          · have hno : isName s.data.toList = false := by
              rw [Bool.eq_false_iff]; intro h
              have := ((isName_iff _).1 h).2
              rw [this] at hhead
              have h5 : (0 : UInt8) = s[q]'hq1 := Option.some.inj hhead
              rw [← h5] at hz0'
              exact hz hz0'.symm
            have HN := Lib.hid hno
            have ht1 : ((z : Int) == 0) = false := by simp; omega
            have hT : 63 < (z : Int) ∨ (¬ 63 < (z : Int) ∧ (s.size : Int) < (q : Int) + 1 + (z : Int)) := by
              by_cases h6 : 63 < z
              · left; omega
              · right; omega
            have b1 : (z : Int) ≤ 255 := by have := (s[q]'hq1).toNat_lt; omega
            have hw : wrap64 ((s[q]'hq1).toNat : Int) = (z : Int) := by
              have := (s[q]'hq1).toNat_lt
              rw [hz0'] at this ⊢; unfold wrap64; omega
            clear hno hhead hr hrl hqle h3 hz hz0'
            rcases hT with h6 | ⟨h6, h7⟩
            all_goals
              go_wp2_with (fail)
              go_ret2
              exact ⟨.slice none 0 0, by rw [HN.out]; rfl, ⟨_, _, _, rfl⟩, fun h => absurd h (by rw [HN.out]; simp), hbw.out⟩
end Go.Proofs.Ythjkdpphbipgfaa
