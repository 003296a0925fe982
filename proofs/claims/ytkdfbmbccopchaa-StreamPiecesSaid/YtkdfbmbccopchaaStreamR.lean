/- The walk of hardtackref30's Split. -/
import Derived.Test.YtkdfbmbccopchaaStreamS
import Derived.Deep.LoopGhost
import Derived.BigQuiet
namespace Go.Proofs.Ytkdfbmbccopchaa
open Go.RowKit Go.Lib

theorem wrap64_small {z : Int} (h : 0 ≤ z) (h2 : z ≤ 9223372036854775807) : wrap64 z = z := by unfold wrap64; omega
theorem slice_nat3 {P : Program} {t : TypeId} (hu : P.underlying t = some .string) (s : ByteArray) (a b : Nat) (lo hi : Int) (hlo : lo = (a : Int)) (hhi : hi = (b : Int)) (h1 : a ≤ b) (h2 : b ≤ s.size) (W : World) :
    (Instr.slice t (.string s) (some (.int .i64 lo)) (some (.int .i64 hi)) none).run P W = .ok (.string (s.extract a b)) W := by
  subst hlo hhi
  have := run_slice_string (P := P) W t s .i64 .i64 (a : Int) (b : Int) hu (by omega) (by omega) (by omega)
  simpa using this
theorem txtV_length (ls : List (List UInt8)) : (txtV ls).length = ls.length := by simp [txtV]
theorem txtV_snoc (ls : List (List UInt8)) (x : List UInt8) : txtV (ls ++ [x]) = txtV ls ++ [Value.string ⟨x.toArray⟩] := by simp [txtV]

set_option maxRecDepth 100000 in
set_option maxHeartbeats 4000000 in
theorem rSplit_any (s : ByteArray) (hs : s.size ≤ 1000000) (w : World) : Calls Try.prog 42 #[.string s] w (SplitPost s w) := by
  obtain ⟨i0, hi0, hz0, hz1, hz2⟩ := info_str
  obtain ⟨ls, hls⟩ : ∃ ls, (mss s.data.toList).1 = ls := ⟨_, rfl⟩
  have hlen : ls.length ≤ 1000000 := by
    have h := congrArg List.length (mss_enc s.data.toList)
    have hl : ∀ ls : List (List UInt8), ls.length ≤ (encM ls).length := by
      intro ls
      induction ls with
      | nil => simp
      | cons x xs ih => rw [encM_length_cons]; simp; omega
    have := hl (mss s.data.toList).1
    have hz : s.data.toList.length = s.size := by simp
    rw [List.length_append] at h
    rw [← hls]
    omega
  have HS := Lib.hid (And.intro hls hs)
  have hS0 : s = ⟨(s.data.toList.drop (posM ls 0)).toArray⟩ := by rw [posM_zero, List.drop_zero]
  have HS0 := Lib.hid hS0
  clear hls hs hS0
  go_enter Try.func42, Try.ntmps42
  go_wp2_with (fail)
  go_loopg [0, 4] (ls.length + 1) (fun g v0 v4 wr => ∃ (k : Nat) (S : ByteArray), g + k = ls.length + 1 ∧ k ≤ ls.length ∧ v0 = .string S ∧ Aside (S = ⟨(s.data.toList.drop (posM ls k)).toArray⟩) ∧ Aside (Sl wr 1 v4 k (txtV (ls.take k))) ∧ Aside (∀ g, v4.ownBlock = some g → w.heap.size ≤ g) ∧ Aside (Below w.heap.size w wr))
  case atStart => exact ⟨0, s, by omega, Nat.zero_le _, rfl, HS0.out, Sl.nil _ _, (show Aside _ from fun g hg => by simp [Value.ownBlock] at hg), Below.refl _ _⟩
  case round =>
    obtain ⟨k, S, hg, hkl, rfl, hS, hsl, hown, hbw⟩ := hrel
    by_cases hlt : k < ls.length
    · have hlt' : k < (mss s.data.toList).1.length := by rw [HS.out.1]; exact hlt
      obtain ⟨x, hxk, hd, hp, hxl⟩ := mss_step hlt'
      rw [HS.out.1] at hxk hd hp
      obtain ⟨A, c, rfl, hc1, hc2⟩ := hsl.out.shape
      have hST : S.data.toList = UInt8.ofNat (x.length / 256) :: UInt8.ofNat (x.length % 256) :: (x ++ s.data.toList.drop (posM ls (k + 1))) := by rw [hS.out]; exact hd
      have hsz : S.size = 2 + x.length + (s.data.toList.drop (posM ls (k + 1))).length := by
        have := congrArg List.length hST
        simp only [List.length_cons, List.length_append] at this
        have h2 : S.data.toList.length = S.size := by simp
        omega
      have h0 : 0 < S.size := by omega
      have h1 : 1 < S.size := by omega
      have b0 : (S[0]'h0).toNat = x.length / 256 := by
        have : S.data.toList[0]? = some (S[0]'h0) := by rw [List.getElem?_eq_getElem (by simpa using h0)]; rfl
        rw [hST] at this
        have := Option.some.inj this
        rw [← this, UInt8.toNat_ofNat']
        omega
      have b1 : (S[1]'h1).toNat = x.length % 256 := by
        have : S.data.toList[1]? = some (S[1]'h1) := by rw [List.getElem?_eq_getElem (by simpa using h1)]; rfl
        rw [hST] at this
        have := Option.some.inj this
        rw [← this, UInt8.toNat_ofNat']
        omega
      have hszS : S.size ≤ 1000000 := by
        have : (s.data.toList.drop (posM ls k)).length ≤ s.data.toList.length := by rw [List.length_drop]; omega
        have h2 : S.size = (s.data.toList.drop (posM ls k)).length := by rw [hS.out]; show (List.toArray _).size = _; simp
        have h3 : s.data.toList.length = s.size := by simp
        have := HS.out.2
        omega
      have hge : (2 : Int) ≤ (S.size : Int) := by omega
      have HX := Lib.hid (And.intro hxk (And.intro hp (And.intro hsz (And.intro hST (And.intro hxl (And.intro hszS hlt))))))
      clear hxk hp hsz hST hlt hlt' hd hc1 hc2
      go_wp2_with (fail)
      go_quiet (fail)
      rw [show (x.length : Int) / 256 * 256 + (x.length : Int) % 256 = (x.length : Int) by omega]
      obtain ⟨V, hV⟩ : ∃ V, wr.drewN nq = V := ⟨_, rfl⟩
      have hslV : Sl V 1 (.slice A k c) k (txtV (ls.take k)) := by rw [← hV]; exact hsl.out.drewN _
      have hbV : Below w.heap.size w V := by rw [← hV]; exact ⟨hbw.out.os, hbw.out.tape, hbw.out.output, hbw.out.size, hbw.out.block⟩
      rw [hV]
      have hx := HX.out
      have hcmp : ¬ ((S.size : Int) - 2 < (x.length : Int)) := by omega
      have hszI : (S.size : Int) ≤ 1000000 := by omega
      have hxI : (x.length : Int) ≤ 65535 := by omega
      have hk6 : k ≤ 1000000 := by omega
      have hcut1 : S.extract 2 (2 + x.length) = ⟨x.toArray⟩ := by
        rw [ext_mk, hx.2.2.2.1, show 2 + x.length - 2 = x.length by omega]
        congr 2
        show (x ++ s.data.toList.drop (posM ls (k + 1))).take x.length = x
        rw [List.take_left]
      have hcut2 : S.extract (2 + x.length) S.size = ⟨(s.data.toList.drop (posM ls (k + 1))).toArray⟩ := by
        rw [str_rest, hx.2.2.2.1, Nat.add_comm 2 x.length]
        congr 2
        show (x ++ s.data.toList.drop (posM ls (k + 1))).drop x.length = _
        rw [List.drop_left]
      have hs1 : ∀ W : World, (Instr.slice 9 (.string S) (some (.int .i64 2)) (some (.int .i64 (2 + (x.length : Int)))) none).run Try.prog W = .ok (.string ⟨x.toArray⟩) W := fun W => by rw [← hcut1]; exact slice_nat3 Try.underlying9 S 2 (2 + x.length) _ _ rfl (by omega) (by omega) (by omega) W
      obtain ⟨R, hR⟩ : ∃ R, S.extract (2 + x.length) S.size = R := ⟨_, rfl⟩
      have hs2 : ∀ W : World, (Instr.slice 9 (.string S) (some (.int .i64 (2 + (x.length : Int)))) none none).run Try.prog W = .ok (.string R) W := fun W => by
        have := run_slice_string_l (P := Try.prog) (w := W) (t := 9) (s := S) Try.underlying9 .i64 (2 + (x.length : Int)) (by omega) (by omega)
        rw [this, ← hR, show (2 + (x.length : Int)).toNat = 2 + x.length by omega]
      obtain ⟨xb, hxb⟩ : ∃ xb, (⟨x.toArray⟩ : ByteArray) = xb := ⟨_, rfl⟩
      rw [hxb] at hs1
      have hsrc := src_one (P := Try.prog) Try.underlying74 V 9 (.string xb) rfl
      have HSL := Lib.hid (hslV.alloc (.cells #[.string xb] 9))
      have HSR := Lib.hid hsrc
      have HB := Lib.hid (And.intro hbV (And.intro hown.out (And.intro (hcut2.symm.trans hR) hxb)))
      clear hslV hbV hsrc hcut1 hcut2 hR hV hx b0 b1 hxb
      go_wp2_with (at_builtin; go_must (refine wpList_append_sl _ rfl (.tmp 22) (.tmp 27) 74 74 rfl 9 i0 (.string ⟨#[]⟩) 1 16 Try.underlying74 hi0 hz0 hz1 hz2 rfl (.slice A k c) k (txtV (ls.take k)) rfl HSL.out _ rfl 1 [.string xb] HSR.out (by unfold maxLen; omega) (by omega) ?_); intro v3 w3 hs3 hg3 hv3)
      go_roundg (ls.length + 1 - (k + 1))
      case measure => have := HX.out.2.2.2.2.2.2; omega
      case rel =>
        have hlt := HX.out.2.2.2.2.2.2
        obtain ⟨hbV, hown', hRd, hxb⟩ := HB.out
        refine ⟨k + 1, R, by omega, by omega, rfl, hRd.symm, ?_, own_row' hown' (by have := hbV.size; simp; omega) hv3, (hbV.alloc hbV.size _).grown hg3 (by have := hbV.size; simp; omega) hown'⟩
        show Sl _ _ _ _ _
        obtain ⟨hl, he⟩ := List.getElem?_eq_some_iff.1 HX.out.1
        rw [List.take_succ_eq_append_getElem hl, he, txtV_snoc, hxb]
        exact hs3
    · obtain rfl : k = ls.length := by omega
      have hrest : S.data.toList = (mss s.data.toList).2 := by
        rw [hS.out]
        have := drop_posM s.data.toList ls.length
        rw [HS.out.1, List.drop_length] at this
        exact this
      have hend := mss_end s.data.toList
      rw [← hrest] at hend
      have hSr : S = ⟨((mss s.data.toList).2).toArray⟩ := by rw [← hrest]
      obtain ⟨A, c, rfl, hc1, hc2⟩ := hsl.out.shape
      have HF := Lib.hid (And.intro hSr (And.intro hsl.out (And.intro hown.out hbw.out)))
      have hlS : S.data.toList.length = S.size := by simp
      by_cases h2 : S.size < 2
      · have h2I : ¬ (2 : Int) ≤ (S.size : Int) := by omega
        clear hrest hend hSr hlS h2 hc1 hc2
        go_wp2_with (fail)
        go_ret2
        obtain ⟨h1, h3, h4, h5⟩ := HF.out
        rw [h1]
        unfold SplitPost
        rw [HS.out.1]
        rw [List.take_length] at h3
        exact ⟨A, c, rfl, h3, h4, h5⟩
      · have h0 : 0 < S.size := by omega
        have h1 : 1 < S.size := by omega
        obtain ⟨p, hp⟩ : ∃ p, (S[0]'h0).toNat = p := ⟨_, rfl⟩
        obtain ⟨r, hr⟩ : ∃ r, (S[1]'h1).toNat = r := ⟨_, rfl⟩
        have hpl : p < 256 := by rw [← hp]; exact (S[0]'h0).toNat_lt
        have hrl : r < 256 := by rw [← hr]; exact (S[1]'h1).toNat_lt
        have hgt : S.size < p * 256 + r + 2 := by
          have e0 : S.data.toList[0]? = some (S[0]'h0) := by rw [List.getElem?_eq_getElem (by simpa using h0)]; rfl
          have e1 : S.data.toList[1]? = some (S[1]'h1) := by rw [List.getElem?_eq_getElem (by simpa using h1)]; rfl
          match hm : S.data.toList, hend with
          | [], _ => rw [hm] at hlS; simp at hlS; omega
          | [a], _ => rw [hm] at hlS; simp at hlS; omega
          | a :: b :: t, he =>
            rw [hm] at e0 e1 hlS
            have ea : a = S[0]'h0 := Option.some.inj e0
            have eb : b = S[1]'h1 := Option.some.inj e1
            have he' : t.length < numM a b := he
            unfold numM at he'
            rw [ea, eb, hp, hr] at he'
            simp only [List.length_cons] at hlS
            omega
        have h2I : (2 : Int) ≤ (S.size : Int) := by omega
        have hszS : (S.size : Int) ≤ 1000000 := by
          have : (s.data.toList.drop (posM ls ls.length)).length ≤ s.data.toList.length := by rw [List.length_drop]; omega
          have h2 : S.size = (s.data.toList.drop (posM ls ls.length)).length := by rw [hS.out]; show (List.toArray _).size = _; simp
          have h3 : s.data.toList.length = s.size := by simp
          have := HS.out.2
          omega
        have hcmp : (S.size : Int) - 2 < (p : Int) * 256 + (r : Int) := by omega
        have hpI : (p : Int) ≤ 255 := by omega
        have hrI : (r : Int) ≤ 255 := by omega
        clear hrest hend hSr hlS h2 hc1 hc2 hgt
        go_wp2_with (fail)
        go_quiet (fail)
        go_wp2_with (fail)
        go_ret2
        obtain ⟨h1, h3, h4, h5⟩ := HF.out
        rw [h1]
        unfold SplitPost
        rw [HS.out.1]
        rw [List.take_length] at h3
        exact ⟨A, c, rfl, h3.drewN _, h4, ⟨h5.os, h5.tape, h5.output, h5.size, h5.block⟩⟩
end Go.Proofs.Ytkdfbmbccopchaa
