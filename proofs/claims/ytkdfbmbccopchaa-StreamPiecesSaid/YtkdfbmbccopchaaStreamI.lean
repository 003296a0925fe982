/- The walks of stream's messages, as an iterator. -/
import Derived.Test.YtkdfbmbccopchaaStreamM
import Derived.Test.YtkdfbmbccopchaaRangeM
import Derived.RangeFuncNested
import Derived.RangeFuncBound
import Derived.RangeFuncCalls
import Derived.RangeFuncLeaves
import Derived.RangeFuncBox
import Derived.RangeFuncFrom
import Derived.Shelf.Abstract
import Derived.Shelf.RegionOpen
import Derived.Shelf.AbstractIn
import Derived.TacticsInMore
import Derived.LoopNIn
import Derived.LoopIn
import Derived.Sort.LoopGhostIn
import Derived.Sort.QuietIn
import Derived.Stop.RegionWithIn
import Derived.Deep.LoopGhost
namespace Go.Proofs.Ytkdfbmbccopchaa
open Go.RowKit Go.Shelf
attribute [local go_sem] Oper.semAt_some

/-- What the iterator tells: each message, and what is behind it. -/
def pairsL (s : ByteArray) : List (ByteArray × ByteArray) := (List.range (mss s.data.toList).1.length).map fun k => (⟨(((mss s.data.toList).1[k]?).getD []).toArray⟩, ⟨(s.data.toList.drop (posM (mss s.data.toList).1 (k + 1))).toArray⟩)
theorem pairs_length (s : ByteArray) : (pairsL s).length = (mss s.data.toList).1.length := by simp [pairsL]
theorem pairs_at {s : ByteArray} {k : Nat} {x : List UInt8} (h : (mss s.data.toList).1[k]? = some x) : (pairsL s)[k]? = some (⟨x.toArray⟩, ⟨(s.data.toList.drop (posM (mss s.data.toList).1 (k + 1))).toArray⟩) := by
  have hk := (List.getElem?_eq_some_iff.1 h).1
  unfold pairsL
  rw [List.getElem?_map, List.getElem?_range hk]
  simp only [Option.map_some, h, Option.getD_some]
theorem Out.of_but {B X R : Nat} {U V : World} (h : But R U V) (hR : B ≤ R ∧ R < X) : Out B X U V :=
  ⟨h.os, h.tape, h.output, h.size, fun i hi ho => h.block i ⟨hi, by omega⟩⟩

theorem messages_in (n : Nat) (s : ByteArray) (w : World) :
    CallsIn Fence.wide n Try.prog 67 #[.string s] w fun e w' => e = .returned (.func (.func 76) #[] #[.pointer (some ⟨w.heap.size, 0, none⟩)]) ∧ w' = w.alloc (.cells #[.string s] 9) := by
  refine callsIn_of_wp Try.func67 rfl trivial ?_ rfl
  simp only [Try.ntmps67, List.size_toArray, List.length_cons, List.length_nil, Nat.reduceAdd, Nat.reduceSub, Array.replicate_succ, Array.replicate_zero, List.push_toArray, List.append_toArray, List.nil_append, List.cons_append]
  gi_wp2
  go_ret
  exact ⟨rfl, rfl⟩

set_option maxRecDepth 100000 in
set_option maxHeartbeats 2000000 in
theorem messages1_M (Bs : Nat) (s : ByteArray) (hs : s.size ≤ maxLen) (w : World) (hc : Blk w Bs 9 #[.string s]) :
    SeqM Try.prog 76 #[.pointer (some ⟨Bs, 0, none⟩)] (fun x : ByteArray × ByteArray => #[Value.string x.1, .string x.2]) Bs (Bs + 1) (pairsL s) w := by
  intro m l J Jx W hW hJ hJx hY h0
  obtain ⟨n, hn⟩ : ∃ n : Nat, 8 ≤ n := ⟨8, by omega⟩
  refine callsIn_wide.2 ((callsIn_wide (n := n)).1 ?_)
  have h1n : 1 ≤ n := by omega
  have hBs : Bs < w.heap.size := hc.lt
  have hws := hW.size
  have bs : Blk W Bs 9 #[.string s] := hc.below hW hBs
  have hOp := fun V => (callsIn_wide (n := n - 1)).2 (rOpen_any s V)
  have c0 : W.cell? ⟨Bs, 0, none⟩ = some (.string s) := bs.cell 0
  have HB := Lib.hid (And.intro bs hs)
  have HO := Lib.hid hOp
  clear bs hs hc hOp
  refine callsIn_of_wp Try.func76 rfl trivial ?_ rfl
  simp only [Try.ntmps76, List.size_toArray, List.length_cons, List.length_nil, Nat.reduceAdd, Nat.reduceSub, Array.replicate_succ, Array.replicate_zero, List.push_toArray, List.append_toArray, List.nil_append, List.cons_append]
  gi_wp2_with (refine ⟨trivial, ?_⟩; gi_at_call 77; refine (HO.out _).mono ?_; rintro r w1 ⟨rfl, hRd, hb1⟩)
  have hw1 := hb1.size
  have hRlt := hRd.lt
  obtain ⟨X, hX⟩ : ∃ X, w1.heap.size = X := ⟨_, rfl⟩
  have hJ0 := h0 _ w1 hb1 hX
  have bs1 : Blk w1 Bs 9 #[.string s] := HB.out.1.below hb1 HB.out.1.lt
  have HJ := Lib.hid (And.intro hJ0 (And.intro hRd bs1))
  have HK := Lib.hid (And.intro hJ (And.intro hJx hY))
  have hXR : W.heap.size < X := by omega
  clear hJ0 hRd bs1 h0 hJ hJx hY hb1 c0 hRlt
  gi_loopg [4, 5] ((mss s.data.toList).1.length + 1) (fun g _ _ wr => ∃ k : Nat, g + k = (mss s.data.toList).1.length + 1 ∧ k ≤ (mss s.data.toList).1.length ∧ Aside (J X ((pairsL s).take k) wr) ∧ Aside (Rd wr W.heap.size s (posM (mss s.data.toList).1 k) false) ∧ Aside (Blk wr Bs 9 #[.string s]))
  case atStart => exact ⟨0, by omega, Nat.zero_le _, HJ.out.1, HJ.out.2.1, HJ.out.2.2⟩
  case round =>
    obtain ⟨k, hg, hkl, hj, hR, hS⟩ := hrel
    by_cases hlt : k < (mss s.data.toList).1.length
    · obtain ⟨x, hxk, hp1, hbe, hp2, hcut, hps, hxl⟩ := str_step hlt
      have hpair := pairs_at hxk
      obtain ⟨p, hp⟩ : ∃ p, posM (mss s.data.toList).1 k = p := ⟨_, rfl⟩
      rw [hp] at hp1 hbe hp2 hcut hps hR
      have hN2 := (callsIn_wide (n := n - 1)).2 (rNum_yes hR.out 2 (.inr (.inl rfl)) HB.out.2 hp1)
      rw [hbe] at hN2
      have HN2 := Lib.hid hN2
      have hRaw : ∀ V, Rd V W.heap.size s (p + 2) false → _ := fun V hV => (callsIn_wide (n := n - 1)).2 (rRaw_yes hV x.length HB.out.2 hp2)
      rw [hcut] at hRaw
      have HRaw := Lib.hid hRaw
      have HP := Lib.hid (And.intro hpair (And.intro hps (And.intro hp hlt)))
      clear hN2 hRaw hpair hps hp hbe hcut hxk hlt
      gi_wp2_with (refine ⟨trivial, ?_⟩; gi_at_call 78; refine (HN2.out).mono ?_; rintro r v1 ⟨rfl, hR1, hB1⟩)
      refine ⟨trivial, (HRaw.out _ hR1).mono ?_⟩
      rintro r v2 ⟨rfl, hR2, hB2⟩
      obtain ⟨q, hq⟩ : ∃ q, p + 2 + x.length = q := ⟨_, rfl⟩
      obtain ⟨xb, hxb⟩ : ∃ xb, (⟨x.toArray⟩ : ByteArray) = xb := ⟨_, rfl⟩
      rw [hq] at hR2 hp2
      rw [hxb]
      have hB12 := hB1.trans hB2
      have bs2 := hB12.blk hS.out (by omega)
      have hJ2 := HK.out.1 X _ _ _ hj.out (Out.of_but hB12 ⟨Nat.le_refl _, hXR⟩)
      have hJd := HK.out.1 X _ _ v2.drew hJ2 ⟨rfl, rfl, rfl, Nat.le_refl _, fun _ _ _ => rfl⟩
      have hpair2 : (pairsL s)[k]? = some (xb, s.extract q s.size) := by
        have := HP.out.1
        rw [HP.out.2.1, hq, ← str_rest, hxb] at this
        exact this
      have hpre : (pairsL s).take k ++ [(xb, s.extract q s.size)] = (pairsL s).take (k + 1) := by
        obtain ⟨hl, he⟩ := List.getElem?_eq_some_iff.1 hpair2
        rw [List.take_succ_eq_append_getElem hl, he]
      have hyld := HK.out.2.2 X _ (xb, s.extract q s.size) v2.drew hJd (by rw [hpre]; exact List.take_prefix _ _)
      rw [hpre] at hyld
      obtain ⟨fn, tmps, assign, body, hy, hRR⟩ := yield_deep (m := n - 1) hyld
      have hRR2 := hRR.mono (R' := fun e W' => ∃ b, e = .returned (.bool b) ∧ ((b = true ∧ J X ((pairsL s).take (k + 1)) W' ∧ KeepX W.heap.size X Bs (Bs + 1) v2.drew W') ∨ (b = false ∧ Jx X ((pairsL s).take (k + 1)) W'))) (by
        rintro e W' (⟨rfl, h1, h2⟩ | ⟨rfl, h1, _⟩)
        · exact ⟨true, rfl, .inl ⟨rfl, h1, h2⟩⟩
        · exact ⟨false, rfl, .inr ⟨rfl, h1⟩⟩)
      have hBad := Lib.hid ((callsIn_wide (n := n - 1)).2 (rBad_any hR2))
      have hAt := Lib.hid ((callsIn_wide (n := n - 1)).2 (rAt_any (w := v2.drew) hR2))
      have c0 : v2.cell? ⟨Bs, 0, none⟩ = some (.string s) := bs2.cell 0
      have hqs : (q : Int) ≤ (s.size : Int) := by omega
      have hss : (s.size : Int) ≤ 9223372036854775807 := by have := HB.out.2; unfold maxLen at this; omega
      have HE := Lib.hid (And.intro hR2 (And.intro bs2 (And.intro hq hp2)))
      clear hR1 hB1 hB2 hB12 hJ2 hJd hpair2 hpre hyld hRR hR2 bs2 hq hp2 hxb
      gi_wp2_with (fail)
      refine ⟨trivial, hBad.out.mono ?_⟩
      rintro r v3 ⟨rfl, rfl⟩
      gi_wp2_with (fail)
      gi_region_with (first | (refine ⟨trivial, ?_⟩; gi_at_call 81; refine hAt.out.mono ?_; rintro r v4 ⟨rfl, rfl⟩) | (refine hRR2.mono ?_; rintro r v5 ⟨b, rfl, hd⟩))
      all_goals
        rcases hd with ⟨rfl, hJ3, hK3⟩ | ⟨rfl, hJx3⟩
        · have h3 := HE.out
          have R3 : Rd _ W.heap.size s q false := (hK3.same _ (by have := (show Rd v2.drew W.heap.size s q false from h3.1).lt; exact this) (.inl ⟨Nat.le_refl _, hXR⟩)).trans h3.1
          have S3 : Blk _ Bs 9 #[.string s] := (hK3.same _ (by have := (show Blk v2.drew Bs 9 #[.string s] from h3.2.1).lt; exact this) (.inr ⟨Nat.le_refl _, by omega⟩)).trans h3.2.1
          have H3 := Lib.hid (And.intro hJ3 (And.intro R3 S3))
          clear hJ3 hK3 R3 S3 h3
          gi_wp2_with (fail)
          gi_roundg ((mss s.data.toList).1.length + 1 - (k + 1))
          case measure => have := HP.out.2.2.2; omega
          case rel =>
            have hlt := HP.out.2.2.2
            refine ⟨k + 1, by omega, by omega, H3.out.1, ?_, H3.out.2.2⟩
            show Rd _ _ _ _ _
            rw [HP.out.2.1, HE.out.2.2.1]
            exact H3.out.2.1
        · gi_wp2_with (fail)
          refine bodyPost_ret (results_none rfl _ _ _) rfl ?_
          exact ⟨⟨_, rfl⟩, _, .inr ⟨_, List.take_prefix _ _, hJx3⟩⟩
    · obtain rfl : k = (mss s.data.toList).1.length := by omega
      obtain ⟨hp0, hend⟩ := str_end s
      have hall : (pairsL s).take (mss s.data.toList).1.length = pairsL s := by rw [← pairs_length, List.take_length]
      rw [hall] at hj
      generalize posM (mss s.data.toList).1 (mss s.data.toList).1.length = p at hp0 hend hR
      rcases hend with h1 | ⟨h1, h2⟩
      · have hN2 := Lib.hid ((callsIn_wide (n := n - 1)).2 (rNum_no hR.out 2 (.inr (.inl rfl)) HB.out.2 hp0 h1))
        clear h1 hp0
        gi_wp2_with (refine ⟨trivial, ?_⟩; gi_at_call 78; refine (hN2.out).mono ?_; rintro r v1 ⟨rfl, hR1, hB1⟩)
        refine ⟨trivial, ((callsIn_wide (n := n - 1)).2 (rRaw_bad hR1 0)).mono ?_⟩
        rintro r v2 ⟨rfl, rfl⟩
        have hBad := Lib.hid ((callsIn_wide (n := n - 1)).2 (rBad_any hR1))
        have H1 := Lib.hid hB1
        clear hR1 hB1
        gi_wp2_with (fail)
        refine ⟨trivial, hBad.out.mono ?_⟩
        rintro r v3 ⟨rfl, rfl⟩
        gi_wp2_with (fail)
        refine bodyPost_ret (results_none rfl _ _ _) rfl ?_
        exact ⟨⟨_, rfl⟩, _, .inl (HK.out.1 X _ _ _ hj.out (Out.of_but H1.out ⟨Nat.le_refl _, hXR⟩))⟩
      · have hN2 := (callsIn_wide (n := n - 1)).2 (rNum_yes hR.out 2 (.inr (.inl rfl)) HB.out.2 h1)
        obtain ⟨y, hy⟩ : ∃ y, beN ((s.extract p (p + 2)).data.toList) = y := ⟨_, rfl⟩
        have hyl : y < 65536 := by
          rw [← hy]
          have h := beN_lt ((s.extract p (p + 2)).data.toList)
          have hl : ((s.extract p (p + 2)).data.toList).length ≤ 2 := by rw [ext_toList, List.length_take]; omega
          have : 256 ^ ((s.extract p (p + 2)).data.toList).length ≤ 256 ^ 2 := Nat.pow_le_pow_right (by omega) hl
          omega
        rw [hy] at hN2 h2
        have HN2 := Lib.hid hN2
        have hRaw : ∀ V, Rd V W.heap.size s (p + 2) false → _ := fun V hV => (callsIn_wide (n := n - 1)).2 (rRaw_no hV (y : Int) HB.out.2 h1 (.inr (by omega)))
        have HRaw := Lib.hid hRaw
        have hyI : (y : Int) ≤ 65535 := by omega
        clear hN2 hRaw h1 h2 hy hp0
        gi_wp2_with (refine ⟨trivial, ?_⟩; gi_at_call 78; refine (HN2.out).mono ?_; rintro r v1 ⟨rfl, hR1, hB1⟩)
        refine ⟨trivial, (HRaw.out _ hR1).mono ?_⟩
        rintro r v2 ⟨rfl, hR2, hB2⟩
        have hBad := Lib.hid ((callsIn_wide (n := n - 1)).2 (rBad_any hR2))
        have H1 := Lib.hid (hB1.trans hB2)
        clear hR1 hB1 hR2 hB2
        gi_wp2_with (fail)
        refine ⟨trivial, hBad.out.mono ?_⟩
        rintro r v3 ⟨rfl, rfl⟩
        gi_wp2_with (fail)
        refine bodyPost_ret (results_none rfl _ _ _) rfl ?_
        exact ⟨⟨_, rfl⟩, _, .inl (HK.out.1 X _ _ _ hj.out (Out.of_but H1.out ⟨Nat.le_refl _, hXR⟩))⟩
end Go.Proofs.Ytkdfbmbccopchaa
