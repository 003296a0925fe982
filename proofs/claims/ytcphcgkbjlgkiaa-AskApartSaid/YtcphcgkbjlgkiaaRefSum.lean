/- The walk of the reference's Sum. -/
import Derived.Test.YtcphcgkbjlgkiaaSum
import Derived.Test.YtcphcgkbjlgkiaaRefWords
import Derived.Test.YtcphcgkbjlgkiaaSipNoTwo
namespace Go.Proofs.Ytcphcgkbjlgkiaa
open Go.RowKit

theorem low_U (s : ByteArray) (hs : s.size ≤ 8) (w : World) : Calls Try.prog 106 #[.string s] w fun e w' => e = .returned (.int .u64 (U (BitVec.ofNat 64 (lowL s.data.toList)))) ∧ w' = w :=
  (low_any s hs w).mono fun _ _ h => ⟨by rw [U_ofNat _ (lowL_lt64 _ (by simpa using hs))]; exact h.1, h.2.symm⟩
theorem rSum_no (key s : ByteArray) (_hk : key.size ≤ 9223372036854775807) (h : key.size ≠ 16) (w : World) : Calls Try.prog 86 #[.string key, .string s] w fun e w' => e = .returned (.tuple #[.int .u64 0, .int .i64 2]) ∧ w = w' := by
  have h3 : ((key.size : Int) != 16) = true := by simp; omega
  clear h
  go_enter Try.func86, Try.ntmps86
  go_wp2_with (fail)
  go_ret2
  exact ⟨rfl, rfl⟩
theorem rSum_long (key s : ByteArray) (h : key.size = 16) (hs0 : s.size ≤ 9223372036854775807) (hs : 65536 < s.size) (w : World) : Calls Try.prog 86 #[.string key, .string s] w fun e w' => e = .returned (.tuple #[.int .u64 0, .int .i64 7]) ∧ w = w' := by
  have h3 : ((key.size : Int) != 16) = false := by simp; omega
  have h4 : (65536 : Int) < (s.size : Int) := by omega
  clear h hs
  go_enter Try.func86, Try.ntmps86
  go_wp2_with (fail)
  go_ret2
  exact ⟨rfl, rfl⟩
theorem own_cells0 {w : World} {base : Nat} {e : TypeId} {g n cap : Nat} {X : List (BitVec 64)} (h : w.ownsRow base e 1 (.slice (some ⟨g, 0, none⟩) n cap) n (X.map u8v)) (k : Nat) (hk : k < X.length) : w.cell? ⟨g, k, none⟩ = some (.int .u64 (U X[k])) := by
  have := h.cells (g := g) rfl k (u8v X[k]) (by simp [hk])
  have e : (⟨g, 0, none⟩ : Addr).add k = ⟨g, k, none⟩ := by unfold Addr.add; split <;> simp_all
  rw [e] at this
  exact this
theorem Round_rk (k : Nat) (hk : k ≤ 64) (a b c d : BitVec 64) (w : World) : Calls Try.prog 108 #[.agg #[.int .u64 (U a), .int .u64 (U b), .int .u64 (U c), .int .u64 (U d)], .int .i64 (k : Int)] w
    fun e w' => e = .returned (v4 (rnds k (a, b, c, d))) ∧ Below w.heap.size w w' := by
  have h := Round_ref a b c d (k : Int) (by omega) w
  rw [show most (k : Int) = k by unfold most; omega] at h
  exact h

set_option maxRecDepth 100000 in
set_option maxHeartbeats 1000000 in
theorem rSum_main (key s : ByteArray) (h : key.size = 16) (hs : s.size ≤ 65536) (w : World) :
    Calls Try.prog 86 #[.string key, .string s] w fun e w' => e = .returned (.tuple #[.int .u64 (U (sumB key.data.toList s.data.toList)), .int .i64 0]) ∧ Below w.heap.size w w' := by
  have h3 : ((key.size : Int) != 16) = false := by simp; omega
  have h4 : (s.size : Int) ≤ 65536 := by omega
  have hk8 : (8 : Int) ≤ (key.size : Int) := by omega
  have hk16 : key.size ≤ 16 := by omega
  have hx1 : bits .xor .u64 (U (keyA key.data.toList)) 8317987319222330741 = U (keyA key.data.toList ^^^ 8317987319222330741#64) := xor_c (keyA key.data.toList) 8317987319222330741 (by decide)
  have hx2 : bits .xor .u64 (U (keyB key.data.toList)) 7237128888997146477 = U (keyB key.data.toList ^^^ 7237128888997146477#64) := xor_c (keyB key.data.toList) 7237128888997146477 (by decide)
  have hx3 : bits .xor .u64 (U (keyA key.data.toList)) 7816392313619706465 = U (keyA key.data.toList ^^^ 7816392313619706465#64) := xor_c (keyA key.data.toList) 7816392313619706465 (by decide)
  have hx4 : bits .xor .u64 (U (keyB key.data.toList)) 8387220255154660723 = U (keyB key.data.toList ^^^ 8387220255154660723#64) := xor_c (keyB key.data.toList) 8387220255154660723 (by decide)
  have HK := Lib.hid h
  clear h
  go_enter Try.func86, Try.ntmps86
  go_wp2_with (fail)
  go_quiet ((go_at_call 106; refine Calls.quiet_of_same (low_U _ ?_ _); (simp; omega)))
  have eA : BitVec.ofNat 64 (lowL (key.extract 0 8).data.toList) = keyA key.data.toList := by rw [extract8]; rfl
  have eB : BitVec.ofNat 64 (lowL (key.extract 8 key.size).data.toList) = keyB key.data.toList := by rw [extract_rest]; rfl
  rw [eA, eB]
  clear eA eB
  have hbq : Below w.heap.size w (w.drewN nq) := below_drewN (Below.refl _ _) nq
  have hszq : (w.drewN nq).heap.size = w.heap.size := rfl
  generalize w.drewN nq = V at hbq hszq ⊢
  have HBQ := Lib.hid hbq
  have HSQ := Lib.hid hszq
  clear hbq hszq
  go_wp2_with (fail)
  refine (rwords_any s (by omega) _).mono ?_
  rintro e W0 ⟨v0, rfl, ho, hbw⟩
  obtain ⟨g1, cap1, rfl, hg1, hlt1⟩ := ho.form (by rw [wordsB_length]; omega)
  have hcX := own_cells0 ho
  have HCX := Lib.hid hcX
  have hsz0 : V.heap.size < W0.heap.size := by have := hbw.size; simp at this; omega
  have hbV : Below V.heap.size V W0 := ((Below.refl _ _).alloc (Nat.le_refl _) _).trans (hbw.mono (by simp))
  have hblk : Blk W0 V.heap.size 81 (arr (begin4 (keyA key.data.toList) (keyB key.data.toList))) := (Blk.new V _ _).below hbw (by simp)
  have hgV : V.heap.size < g1 := by simp at hg1; omega
  have hxl := wordsB_length s.data.toList
  have hxm : ((wordsB s.data.toList).length : Int) ≤ 10000 := by simp at hxl; omega
  clear ho hbw hcX hx1 hx2 hx3 hx4 hxl hg1
  generalize hX : wordsB s.data.toList = X at *
  have HXX := Lib.hid hX
  clear hX
  go_wp2_with (fail)
  go_loopg [10, 35] X.length (fun g _x i wr => ∃ k : Nat, g + k = X.length ∧ i = .int .i64 (k : Int) ∧ Blk wr V.heap.size 81 (arr ((X.take k).foldl absorb (begin4 (keyA key.data.toList) (keyB key.data.toList)))) ∧ Below V.heap.size V wr ∧ g1 < wr.heap.size ∧ (∀ j (hj : j < X.length), wr.cell? ⟨g1, j, none⟩ = some (.int .u64 (U X[j]))))
  case atStart => exact ⟨0, by omega, rfl, hblk, hbV, hlt1, HCX.out⟩
  case round =>
    obtain ⟨k, hk, rfl, hB, hbW, hlg, hcx⟩ := hrel
    have HKK := Lib.hid hk
    have HCK := Lib.hid hcx
    by_cases hlt : k < X.length
    · have hki : (k : Int) < (X.length : Int) := by omega
      have cx := hcx k hlt
      clear hcx
      generalize hv : (X.take k).foldl absorb (begin4 (keyA key.data.toList) (keyB key.data.toList)) = v at hB
      obtain ⟨a, b, c, d⟩ := v
      have HV := Lib.hid hv
      have k2 := U_xor
      have c3 : wr.cell? ⟨V.heap.size, 3, none⟩ = some (.int .u64 (U d)) := hB.cell 3
      have c0 : wr.cell? ⟨V.heap.size, 0, none⟩ = some (.int .u64 (U a)) := hB.cell 0
      have c1 : wr.cell? ⟨V.heap.size, 1, none⟩ = some (.int .u64 (U b)) := hB.cell 1
      have c2 : wr.cell? ⟨V.heap.size, 2, none⟩ = some (.int .u64 (U c)) := hB.cell 2
      have f0 := hB.frozen 0
      have f1 := hB.frozen 1
      have f2 := hB.frozen 2
      have f3 := hB.frozen 3
      clear hv hk
      generalize hxk : X[k] = x at cx
      have HXK := Lib.hid hxk
      clear hxk
      go_wp2_with (fail)
      refine (Round_rk 2 (by omega) a b c (d ^^^ x) _).mono ?_
      rintro e W1 ⟨rfl, hb1⟩
      have hB1 := (hB.set_ 3 (.int .u64 (U (d ^^^ x)))).below hb1 (by simpa using hB.lt)
      clear c0 c1 c2 c3 f0 f1 f2 f3
      generalize hu : rnds 2 (a, b, c, d ^^^ x) = u
      obtain ⟨p1, p2, p3, p4⟩ := u
      have HU := Lib.hid hu
      have c0 : W1.cell? ⟨V.heap.size, 0, none⟩ = some (.int .u64 (U a)) := hB1.cell 0
      have c1 : W1.cell? ⟨V.heap.size, 1, none⟩ = some (.int .u64 (U b)) := hB1.cell 1
      have c2 : W1.cell? ⟨V.heap.size, 2, none⟩ = some (.int .u64 (U c)) := hB1.cell 2
      have c3 : W1.cell? ⟨V.heap.size, 3, none⟩ = some (.int .u64 (U (d ^^^ x))) := hB1.cell 3
      have f0 := hB1.frozen 0
      have f1 := hB1.frozen 1
      have f2 := hB1.frozen 2
      have f3 := hB1.frozen 3
      clear hu
      have hcW1 : ∀ j (hj : j < X.length), W1.cell? ⟨g1, j, none⟩ = some (.int .u64 (U X[j])) := fun j hj =>
        (hb1.cell (p := ⟨g1, j, none⟩) (by simpa [World.setCell] using hlg)).trans ((World.cell?_setCell_other _ _ _ _ (by intro h; simp only [Addr.mk.injEq] at h; omega)).trans (HCK.out j hj))
      have HC1 := Lib.hid hcW1
      clear hcW1
      have E : arr ((X.take (k + 1)).foldl absorb (begin4 (keyA key.data.toList) (keyB key.data.toList))) = st4 (p1 ^^^ x) p2 p3 p4 := by
        rw [List.take_succ_eq_append_getElem hlt, HXK.out, List.foldl_append, HV.out]
        show arr (absorb (a, b, c, d) x) = _
        unfold absorb arr
        rw [HU.out]
      have HE := Lib.hid E
      clear E
      have hbs := hbW.size
      have hbW1 : Below V.heap.size V W1 := (hbW.setCell (p := ⟨V.heap.size, 3, none⟩) (Nat.le_refl _) _).trans (hb1.mono (by simpa [World.setCell] using hbs))
      have hl1 : g1 < W1.heap.size := Nat.lt_of_lt_of_le (by simpa [World.setCell] using hlg) hb1.size
      have HB1 := Lib.hid hbW1
      clear hbs hbW1
      go_wp2_with (fail)
      go_roundg (X.length - (k + 1))
      case measure => have := HKK.out; omega
      case rel =>
        have := HKK.out
        refine ⟨k + 1, by omega, by go_num, ?_, ?_, ?_, ?_⟩
        · rw [HE.out]
          exact ((((hB1.set_ 0 _).set_ 1 _).set_ 2 _).set_ 3 _).set_ 0 _
        · exact ((((HB1.out.setCell (p := ⟨V.heap.size, 0, none⟩) (Nat.le_refl _) _).setCell (p := ⟨V.heap.size, 1, none⟩) (Nat.le_refl _) _).setCell (p := ⟨V.heap.size, 2, none⟩) (Nat.le_refl _) _).setCell (p := ⟨V.heap.size, 3, none⟩) (Nat.le_refl _) _).setCell (p := ⟨V.heap.size, 0, none⟩) (Nat.le_refl _) _
        · simpa [World.setCell] using hl1
        · intro j hj
          have ho : ∀ i, (⟨g1, j, none⟩ : Addr) ≠ ⟨V.heap.size, i, none⟩ := by intro i h; simp only [Addr.mk.injEq] at h; omega
          have hoo : ∀ (W : World) (i : Nat) (v : Value), (W.setCell ⟨V.heap.size, i, none⟩ v).cell? ⟨g1, j, none⟩ = W.cell? ⟨g1, j, none⟩ := fun W i v => World.cell?_setCell_other _ _ _ _ (by first | exact ho i | exact (ho i).symm)
          simp only [hoo]
          exact HC1.out j hj
    · obtain rfl : k = X.length := by omega
      have hge : decide ((X.length : Int) < (X.length : Int)) = false := by simp
      rw [List.take_length] at hB
      generalize hv : X.foldl absorb (begin4 (keyA key.data.toList) (keyB key.data.toList)) = v at hB
      obtain ⟨a, b, c, d⟩ := v
      have HV := Lib.hid hv
      have k2 := U_xor
      have k3 : bits .xor .u64 (U c) 255 = U (c ^^^ 255#64) := xor_c c 255 (by decide)
      have c0 : wr.cell? ⟨V.heap.size, 0, none⟩ = some (.int .u64 (U a)) := hB.cell 0
      have c1 : wr.cell? ⟨V.heap.size, 1, none⟩ = some (.int .u64 (U b)) := hB.cell 1
      have c2 : wr.cell? ⟨V.heap.size, 2, none⟩ = some (.int .u64 (U c)) := hB.cell 2
      have c3 : wr.cell? ⟨V.heap.size, 3, none⟩ = some (.int .u64 (U d)) := hB.cell 3
      have f0 := hB.frozen 0
      have f1 := hB.frozen 1
      have f2 := hB.frozen 2
      have f3 := hB.frozen 3
      clear hv hcx hk hlt
      go_wp2_with (fail)
      refine (Round_rk 4 (by omega) a b (c ^^^ 255#64) d _).mono ?_
      rintro e W1 ⟨rfl, hb1⟩
      have hB1 := (hB.set_ 2 (.int .u64 (U (c ^^^ 255#64)))).below hb1 (by simpa using hB.lt)
      clear c0 c1 c2 c3 f0 f1 f2 f3 k3
      generalize hu : rnds 4 (a, b, c ^^^ 255#64, d) = u
      obtain ⟨p1, p2, p3, p4⟩ := u
      have HU := Lib.hid hu
      have c0 : W1.cell? ⟨V.heap.size, 0, none⟩ = some (.int .u64 (U a)) := hB1.cell 0
      have c1 : W1.cell? ⟨V.heap.size, 1, none⟩ = some (.int .u64 (U b)) := hB1.cell 1
      have c2 : W1.cell? ⟨V.heap.size, 2, none⟩ = some (.int .u64 (U (c ^^^ 255#64))) := hB1.cell 2
      have c3 : W1.cell? ⟨V.heap.size, 3, none⟩ = some (.int .u64 (U d)) := hB1.cell 3
      have f0 := hB1.frozen 0
      have f1 := hB1.frozen 1
      have f2 := hB1.frozen 2
      have f3 := hB1.frozen 3
      clear hu
      have hbs := hbW.size
      have hbW1 : Below V.heap.size V W1 := (hbW.setCell (p := ⟨V.heap.size, 2, none⟩) (Nat.le_refl _) _).trans (hb1.mono (by simpa [World.setCell] using hbs))
      have HB1 := Lib.hid hbW1
      clear hbs hbW1
      go_wp2_with (fail)
      go_ret2
      refine ⟨?_, ?_⟩
      · exact ret_sum (sum_eq (by rw [HXX.out]; exact HV.out) HU.out)
      · have hf := (((HB1.out.setCell (p := ⟨V.heap.size, 0, none⟩) (Nat.le_refl _) (.int .u64 (U p1))).setCell (p := ⟨V.heap.size, 1, none⟩) (Nat.le_refl _) (.int .u64 (U p2))).setCell (p := ⟨V.heap.size, 2, none⟩) (Nat.le_refl _) (.int .u64 (U p3))).setCell (p := ⟨V.heap.size, 3, none⟩) (Nat.le_refl _) (.int .u64 (U p4))
        exact HBQ.out.trans (hf.mono (Nat.le_of_eq HSQ.out.symm))

theorem rSum_any (key s : ByteArray) (hk : key.size ≤ 9223372036854775807) (hs : s.size ≤ 9223372036854775807) (w : World) :
    Calls Try.prog 86 #[.string key, .string s] w fun e w' => e = .returned (.tuple #[.int .u64 (sumN key.data.toList s.data.toList), .int .i64 (sumE key.data.toList s.data.toList)]) ∧ Below w.heap.size w w' := by
  have h1 : key.data.toList.length = key.size := by simp
  have h2 : s.data.toList.length = s.size := by simp
  unfold sumN sumE
  rw [h1, h2]
  by_cases hk16 : key.size = 16
  · by_cases hs6 : s.size ≤ 65536
    · rw [if_pos ⟨hk16, hs6⟩, if_neg (by simp [hk16]), if_neg (by omega)]
      exact rSum_main key s hk16 hs6 w
    · rw [if_neg (by omega), if_neg (by simp [hk16]), if_pos (by omega)]
      exact (rSum_long key s hk16 hs (by omega) w).mono fun _ _ h => ⟨h.1, below_eq h.2⟩
  · rw [if_neg (by simp [hk16]), if_pos hk16]
    exact (rSum_no key s hk hk16 w).mono fun _ _ h => ⟨h.1, below_eq h.2⟩
end Go.Proofs.Ytcphcgkbjlgkiaa
