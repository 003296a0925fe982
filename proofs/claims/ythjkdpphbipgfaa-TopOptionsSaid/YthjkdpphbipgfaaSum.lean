/- The walk of package sip's Sum. -/
import Derived.Test.YthjkdpphbipgfaaWordsC
import Derived.Test.YthjkdpphbipgfaaSumMath
import Derived.Test.YthjkdpphbipgfaaSipQ
namespace Go.Proofs.Ythjkdpphbipgfaa
open Go.RowKit Go.Shelf
attribute [local go_sem] Oper.semAt_some

theorem word_U (s : ByteArray) (hs : s.size ≤ 8) (w : World) : Calls Try.prog 70 #[.string s] w fun e w' => e = .returned (.int .u64 (U (BitVec.ofNat 64 (lowL s.data.toList)))) ∧ w' = w :=
  (word_any s hs w).mono fun _ _ h => ⟨by rw [U_ofNat _ (lowL_lt64 _ (by simpa using hs))]; exact h.1, h.2.symm⟩

theorem Sum_no (key s : ByteArray) (_hk : key.size ≤ 9223372036854775807) (h : key.size ≠ 16) (w : World) : Calls Try.prog 34 #[.string key, .string s] w fun e w' => e = .returned (.tuple #[.int .u64 0, .int .i64 2]) ∧ w = w' := by
  have h3 : ((key.size : Int) != 16) = true := by simp; omega
  clear h
  go_enter Try.func34, Try.ntmps34
  go_wp2_with (fail)
  go_ret2
  exact ⟨rfl, rfl⟩
theorem Sum_long (key s : ByteArray) (h : key.size = 16) (hs0 : s.size ≤ 9223372036854775807) (hs : 65536 < s.size) (w : World) : Calls Try.prog 34 #[.string key, .string s] w fun e w' => e = .returned (.tuple #[.int .u64 0, .int .i64 7]) ∧ w = w' := by
  have h3 : ((key.size : Int) != 16) = false := by simp; omega
  have h4 : (65536 : Int) < (s.size : Int) := by omega
  clear h hs
  go_enter Try.func34, Try.ntmps34
  go_wp2_with (fail)
  go_ret2
  exact ⟨rfl, rfl⟩

theorem Round_k (k : Nat) (hk : k ≤ 64) (a b c d : BitVec 64) (w : World) : Calls Try.prog 72 #[.agg #[.int .u64 (U a), .int .u64 (U b), .int .u64 (U c), .int .u64 (U d)], .int .i64 (k : Int)] w
    fun e w' => e = .returned (v4 (rnds k (a, b, c, d))) ∧ Below w.heap.size w w' := by
  have h := Round_any a b c d (k : Int) (by omega) w
  rw [show most (k : Int) = k by unfold most; omega] at h
  exact h

set_option maxRecDepth 100000 in
set_option maxHeartbeats 400000 in
theorem Sum_in (n : Nat) (hn : 4 ≤ n) (key s : ByteArray) (h : key.size = 16) (hs : s.size ≤ 65536) (w : World) :
    CallsIn Fence.wide n Try.prog 34 #[.string key, .string s] w fun e w' => e = .returned (.tuple #[.int .u64 (U (sumB key.data.toList s.data.toList)), .int .i64 0]) ∧ Below w.heap.size w w' := by
  have h3 : ((key.size : Int) != 16) = false := by simp; omega
  have h4 : (s.size : Int) ≤ 65536 := by omega
  have hk8 : (8 : Int) ≤ (key.size : Int) := by omega
  have hk16 : key.size ≤ 16 := by omega
  have h1n : 1 ≤ n := by omega
  have hx1 : bits .xor .u64 (U (keyA key.data.toList)) 8317987319222330741 = U (keyA key.data.toList ^^^ 8317987319222330741#64) := xor_c (keyA key.data.toList) 8317987319222330741 (by decide)
  have hx2 : bits .xor .u64 (U (keyB key.data.toList)) 7237128888997146477 = U (keyB key.data.toList ^^^ 7237128888997146477#64) := xor_c (keyB key.data.toList) 7237128888997146477 (by decide)
  have hx3 : bits .xor .u64 (U (keyA key.data.toList)) 7816392313619706465 = U (keyA key.data.toList ^^^ 7816392313619706465#64) := xor_c (keyA key.data.toList) 7816392313619706465 (by decide)
  have hx4 : bits .xor .u64 (U (keyB key.data.toList)) 8387220255154660723 = U (keyB key.data.toList ^^^ 8387220255154660723#64) := xor_c (keyB key.data.toList) 8387220255154660723 (by decide)
  have HK := Lib.hid h
  have hw : Fence.wide.fn 70 := trivial
  clear h
  refine callsIn_of_wp_marks Try.func34 rfl trivial ?_ rfl
  simp only [Try.ntmps34, List.size_toArray, List.length_cons, List.length_nil, Nat.reduceAdd, Nat.reduceSub, Array.replicate_succ, Array.replicate_zero, List.push_toArray, List.append_toArray, List.nil_append, List.cons_append]
  gi_wp2_with (fail)
  gi_quiet ((gi_at_call 70; refine CallsIn.quiet_of_same (callsIn_wide.2 (word_U _ ?_ _)); (simp; omega)))
  have eA : BitVec.ofNat 64 (lowL (key.extract 0 8).data.toList) = keyA key.data.toList := by rw [extract8]; rfl
  have eB : BitVec.ofNat 64 (lowL (key.extract 8 key.size).data.toList) = keyB key.data.toList := by rw [extract_rest]; rfl
  rw [eA, eB]
  clear eA eB
  have hbq : Below w.heap.size w (w.drewN nq) := below_drewN (Below.refl _ _) nq
  have hszq : (w.drewN nq).heap.size = w.heap.size := rfl
  generalize w.drewN nq = V at hbq hszq ⊢
  have HBQ := Lib.hid hbq
  have HSQ := Lib.hid hszq
  clear hbq hszq
  gi_wp2_with (refine ⟨trivial, ?_⟩; gi_at_call 71; refine (words_in _ s _).mono ?_; rintro e w' ⟨rfl, rfl⟩)
  obtain ⟨W0, hW0⟩ : ∃ W0, (V.alloc (.cells (st4 (keyA key.data.toList ^^^ 8317987319222330741#64) (keyB key.data.toList ^^^ 7237128888997146477#64) (keyA key.data.toList ^^^ 7816392313619706465#64) (keyB key.data.toList ^^^ 8387220255154660723#64)) 123)).alloc (.cells #[.string s] 9) = W0 := ⟨_, rfl⟩
  unfold st4 at hW0
  have hsz0 : W0.heap.size = V.heap.size + 2 := by rw [← hW0]; simp
  have hbV : Below V.heap.size V W0 := by rw [← hW0]; exact ((Below.refl _ _).alloc (Nat.le_refl _) _).alloc (by simp) _
  have hblk : Blk W0 V.heap.size 123 (arr (begin4 (keyA key.data.toList) (keyB key.data.toList))) := by rw [← hW0]; exact (Blk.new V _ _).alloc _
  have hstr : Boxed W0 (V.heap.size + 1) 9 (.string s) := by
    rw [← hW0]
    have := Boxed.new (V.alloc (.cells (st4 (keyA key.data.toList ^^^ 8317987319222330741#64) (keyB key.data.toList ^^^ 7237128888997146477#64) (keyA key.data.toList ^^^ 7816392313619706465#64) (keyB key.data.toList ^^^ 8387220255154660723#64)) 123)) 9 (.string s)
    rw [World.size_alloc] at this
    exact this
  rw [hW0]
  clear hW0
  apply wpIn_rangeFunc_ownF rfl (by omega) (gf := 100) (lb := #[.pointer (some ⟨V.heap.size + 1, 0, none⟩)]) rfl trivial (enters_of Try.func100 (by kernel_rfl) rfl)
    (words_stops (n - 1) (by omega) (V.heap.size + 1) s (by unfold maxLen; omega) W0 (by omega) hstr.cell) (fun h k => k.trans h) (kp_b (by omega)) (Below.refl _ _) (fun _ => rfl)
    (fun (pre : List (BitVec 64)) W => (Blk W V.heap.size 123 (arr (pre.foldl absorb (begin4 (keyA key.data.toList) (keyB key.data.toList)))) ∧ Blk W (V.heap.size + 1) 9 #[.string s]) ∧ Below V.heap.size V W)
    (fun _ _ _ => False)
    (OwnFrom.and (OwnFrom.and ((blk_own _ _ (fun pre : List (BitVec 64) => arr (pre.foldl absorb (begin4 (keyA key.data.toList) (keyB key.data.toList))))).from _) ((blk_own _ _ (fun _ => #[.string s])).from _)) (ownFrom_below (Nat.le_refl _) (by omega)))
    (fun _ _ _ _ _ h => h.elim)
    ⟨⟨hblk, hstr⟩, hbV⟩
  case hassign =>
    intro l x W K hK
    gi_wp2
    exact hK
  case hbody =>
    rintro l pre x W ⟨⟨hB, hst⟩, hbW⟩ hlen
    generalize hv : pre.foldl absorb (begin4 (keyA key.data.toList) (keyB key.data.toList)) = v at hB
    obtain ⟨a, b, c, d⟩ := v
    have HV := Lib.hid hv
    have k2 := U_xor
    have c0 : W.cell? ⟨V.heap.size, 0, none⟩ = some (.int .u64 (U a)) := hB.cell 0
    have c1 : W.cell? ⟨V.heap.size, 1, none⟩ = some (.int .u64 (U b)) := hB.cell 1
    have c2 : W.cell? ⟨V.heap.size, 2, none⟩ = some (.int .u64 (U c)) := hB.cell 2
    have c3 : W.cell? ⟨V.heap.size, 3, none⟩ = some (.int .u64 (U d)) := hB.cell 3
    have f0 := hB.frozen 0
    have f1 := hB.frozen 1
    have f2 := hB.frozen 2
    have f3 := hB.frozen 3
    have hbs := hbW.size
    clear hv hlen hx1 hx2 hx3 hx4
    gi_wp2_with (fail)
    refine ⟨trivial, fun _ => by omega, ?_⟩
    refine (CallsIn.inRound l (callsIn_wide.2 (Round_k 2 (by omega) a b c (d ^^^ x) _))).mono ?_
    rintro e W1 ⟨rfl, hb1⟩
    have hB1 := (hB.set_ 3 (.int .u64 (U (d ^^^ x)))).below hb1 (by simpa using hB.lt)
    have hst1 := hst.far (p := ⟨V.heap.size, 3, none⟩) (by simp) (.int .u64 (U (d ^^^ x)))
    have hkp1 : KeepsOthers (W.setCell ⟨V.heap.size, 3, none⟩ (.int .u64 (U (d ^^^ x)))) W1 := keeps_below hb1
    clear c0 c1 c2 c3 f0 f1 f2 f3
    generalize hu : rnds 2 (a, b, c, d ^^^ x) = u
    obtain ⟨p1, p2, p3, p4⟩ := u
    have HU := Lib.hid hu
    have c0 : W1.cell? ⟨V.heap.size, 0, none⟩ = some (.int .u64 (U a)) := hB1.cell 0
    have c1 : W1.cell? ⟨V.heap.size, 1, none⟩ = some (.int .u64 (U b)) := hB1.cell 1
    have c2 : W1.cell? ⟨V.heap.size, 2, none⟩ = some (.int .u64 (U c)) := hB1.cell 2
    have c3 : W1.cell? ⟨V.heap.size, 3, none⟩ = some (.int .u64 (U (d ^^^ x))) := hB1.cell 3
    have f0 := hB1.frozen 0
    have f1 := hB1.frozen 1
    have f2 := hB1.frozen 2
    have f3 := hB1.frozen 3
    clear hu
    have hst2 := hst1.below hb1 hst1.lt
    have hbW1 : Below V.heap.size V W1 := (hbW.setCell (p := ⟨V.heap.size, 3, none⟩) (Nat.le_refl _) _).trans (hb1.mono (by simpa [World.setCell] using hbs))
    have E : arr ((pre ++ [x]).foldl absorb (begin4 (keyA key.data.toList) (keyB key.data.toList))) = st4 (p1 ^^^ x) p2 p3 p4 := by
      rw [List.foldl_append, HV.out]
      show arr (absorb (a, b, c, d) x) = _
      unfold absorb arr
      rw [HU.out]
    have HE := Lib.hid E
    clear E
    gi_wp2_with (fail)
    refine ⟨?_, ?_, ⟨?_, ?_⟩, ?_⟩
    · exact (KeepsOthers.setCell W _ _).trans (hkp1.trans (((((KeepsOthers.setCell W1 _ _).trans (KeepsOthers.setCell _ _ _)).trans (KeepsOthers.setCell _ _ _)).trans (KeepsOthers.setCell _ _ _)).trans (KeepsOthers.setCell _ _ _)))
    · exact ((((((hst2.far (p := ⟨V.heap.size, 0, none⟩) (by simp) _).far (p := ⟨V.heap.size, 1, none⟩) (by simp) _).far (p := ⟨V.heap.size, 2, none⟩) (by simp) _).far (p := ⟨V.heap.size, 3, none⟩) (by simp) _).far (p := ⟨V.heap.size, 0, none⟩) (by simp) _).cell 0).trans (hst.cell 0).symm
    · rw [HE.out]
      exact ((((hB1.set_ 0 _).set_ 1 _).set_ 2 _).set_ 3 _).set_ 0 _
    · exact ((((hst2.far (p := ⟨V.heap.size, 0, none⟩) (by simp) _).far (p := ⟨V.heap.size, 1, none⟩) (by simp) _).far (p := ⟨V.heap.size, 2, none⟩) (by simp) _).far (p := ⟨V.heap.size, 3, none⟩) (by simp) _).far (p := ⟨V.heap.size, 0, none⟩) (by simp) _
    · exact ((((hbW1.setCell (p := ⟨V.heap.size, 0, none⟩) (Nat.le_refl _) _).setCell (p := ⟨V.heap.size, 1, none⟩) (Nat.le_refl _) _).setCell (p := ⟨V.heap.size, 2, none⟩) (Nat.le_refl _) _).setCell (p := ⟨V.heap.size, 3, none⟩) (Nat.le_refl _) _).setCell (p := ⟨V.heap.size, 0, none⟩) (Nat.le_refl _) _
  case hdone =>
    rintro D ys W hD rfl ⟨⟨hB, hst⟩, hbW⟩ hK
    generalize hv : (wordsB s.data.toList).foldl absorb (begin4 (keyA key.data.toList) (keyB key.data.toList)) = v at hB
    obtain ⟨a, b, c, d⟩ := v
    have HV := Lib.hid hv
    have k2 := U_xor
    have k3 : bits .xor .u64 (U c) 255 = U (c ^^^ 255#64) := xor_c c 255 (by decide)
    have c0 : W.cell? ⟨V.heap.size, 0, none⟩ = some (.int .u64 (U a)) := hB.cell 0
    have c1 : W.cell? ⟨V.heap.size, 1, none⟩ = some (.int .u64 (U b)) := hB.cell 1
    have c2 : W.cell? ⟨V.heap.size, 2, none⟩ = some (.int .u64 (U c)) := hB.cell 2
    have c3 : W.cell? ⟨V.heap.size, 3, none⟩ = some (.int .u64 (U d)) := hB.cell 3
    have f0 := hB.frozen 0
    have f1 := hB.frozen 1
    have f2 := hB.frozen 2
    have f3 := hB.frozen 3
    have hbs := hbW.size
    clear hv hx1 hx2 hx3 hx4
    gi_wp2_with (fail)
    refine ⟨trivial, ?_⟩
    refine (callsIn_wide.2 (Round_k 4 (by omega) a b (c ^^^ 255#64) d _)).mono ?_
    rintro e W1 ⟨rfl, hb1⟩
    have hB1 := (hB.set_ 2 (.int .u64 (U (c ^^^ 255#64)))).below hb1 (by simpa using hB.lt)
    clear c0 c1 c2 c3 f0 f1 f2 f3 k3
    generalize hu : rnds 4 (a, b, c ^^^ 255#64, d) = u
    obtain ⟨p1, p2, p3, p4⟩ := u
    have HU := Lib.hid hu
    have c0 : W1.cell? ⟨V.heap.size, 0, none⟩ = some (.int .u64 (U a)) := hB1.cell 0
    have c1' : W1.cell? ⟨V.heap.size, 1, none⟩ = some (.int .u64 (U b)) := hB1.cell 1
    have c2 : W1.cell? ⟨V.heap.size, 2, none⟩ = some (.int .u64 (U (c ^^^ 255#64))) := hB1.cell 2
    have c3 : W1.cell? ⟨V.heap.size, 3, none⟩ = some (.int .u64 (U d)) := hB1.cell 3
    have f0 := hB1.frozen 0
    have f1 := hB1.frozen 1
    have f2 := hB1.frozen 2
    have f3 := hB1.frozen 3
    clear hu
    have hDl : D < W.heap.size := (Array.getElem?_eq_some_iff.1 hK).1
    have hK1 : W1.heap[D]? = some (.deferred (some [])) := (hb1.block D (by simpa [World.setCell] using hDl)).trans ((Below.heap_setCell W ⟨V.heap.size, 2, none⟩ _ D (by simp; omega)).trans hK)
    have hbW1 : Below V.heap.size V W1 := (hbW.setCell (p := ⟨V.heap.size, 2, none⟩) (Nat.le_refl _) _).trans (hb1.mono (by simpa [World.setCell] using hbs))
    have HK1 := Lib.hid hK1
    have hDn : D ≠ V.heap.size := by omega
    clear hK1 hK
    gi_wp2_with (fail)
    have hK5 := (Below.heap_setCell (((W1.setCell ⟨V.heap.size, 0, none⟩ (.int .u64 (U p1))).setCell ⟨V.heap.size, 1, none⟩ (.int .u64 (U p2))).setCell ⟨V.heap.size, 2, none⟩ (.int .u64 (U p3))) ⟨V.heap.size, 3, none⟩ (.int .u64 (U p4)) D hDn).trans ((Below.heap_setCell ((W1.setCell ⟨V.heap.size, 0, none⟩ (.int .u64 (U p1))).setCell ⟨V.heap.size, 1, none⟩ (.int .u64 (U p2))) ⟨V.heap.size, 2, none⟩ (.int .u64 (U p3)) D hDn).trans ((Below.heap_setCell (W1.setCell ⟨V.heap.size, 0, none⟩ (.int .u64 (U p1))) ⟨V.heap.size, 1, none⟩ (.int .u64 (U p2)) D hDn).trans ((Below.heap_setCell W1 ⟨V.heap.size, 0, none⟩ (.int .u64 (U p1)) D hDn).trans HK1.out)))
    refine ⟨by simp, .inl ⟨_, _, rfl, run_takeDeferred hK5, ?_⟩⟩
    refine ⟨_, results_tmp2 rfl _ _ _, ?_, ?_⟩
    · exact ret_sum (sum_eq HV.out HU.out)
    · have hf := (((hbW1.setCell (p := ⟨V.heap.size, 0, none⟩) (Nat.le_refl _) (.int .u64 (U p1))).setCell (p := ⟨V.heap.size, 1, none⟩) (Nat.le_refl _) (.int .u64 (U p2))).setCell (p := ⟨V.heap.size, 2, none⟩) (Nat.le_refl _) (.int .u64 (U p3))).setCell (p := ⟨V.heap.size, 3, none⟩) (Nat.le_refl _) (.int .u64 (U p4))
      have hg := hf.trans (belowK_b (w := V) (Nat.le_refl _) _ D _ (.deferred none) (by omega) hK5 rfl rfl)
      exact HBQ.out.trans (hg.mono (Nat.le_of_eq HSQ.out.symm))
  case hstop =>
    rintro D c pre W hD _ h _
    exact h.elim

theorem Sum_any (key s : ByteArray) (hk : key.size ≤ 9223372036854775807) (hs : s.size ≤ 9223372036854775807) (w : World) :
    Calls Try.prog 34 #[.string key, .string s] w fun e w' => e = .returned (.tuple #[.int .u64 (sumN key.data.toList s.data.toList), .int .i64 (sumE key.data.toList s.data.toList)]) ∧ Below w.heap.size w w' := by
  have h1 : key.data.toList.length = key.size := by simp
  have h2 : s.data.toList.length = s.size := by simp
  unfold sumN sumE
  rw [h1, h2]
  by_cases hk16 : key.size = 16
  · by_cases hs6 : s.size ≤ 65536
    · rw [if_pos ⟨hk16, hs6⟩, if_neg (by simp [hk16]), if_neg (by omega)]
      exact callsIn_wide.1 (Sum_in 4 (Nat.le_refl _) key s hk16 hs6 w)
    · rw [if_neg (by omega), if_neg (by simp [hk16]), if_pos (by omega)]
      exact (Sum_long key s hk16 hs (by omega) w).mono fun _ _ h => ⟨h.1, below_eq h.2⟩
  · rw [if_neg (by simp [hk16]), if_pos hk16]
    exact (Sum_no key s hk hk16 w).mono fun _ _ h => ⟨h.1, below_eq h.2⟩
end Go.Proofs.Ythjkdpphbipgfaa
