/- The walk of hardtackref41's Mix; the law MixTells. -/
import Derived.Test.YtjhhhkhcnohmiaaRef41W
namespace Go.Proofs.Ytjhhhkhcnohmiaa
open Go.RowKit Go.Shelf

set_option maxRecDepth 100000 in
theorem rMix_no (s : ByteArray) (d : Nat) (hs : s.size ≤ maxLen) (hn : isName s.data.toList = false) (w : World) :
    Calls Try.prog 14 #[.string s, .int .u64 (d : Int)] w fun e w' => e = .returned (.tuple #[.string ⟨#[]⟩, .int .i64 2]) ∧ Below w.heap.size w w' := by
  have hC := fun W => rCheck_any s hs W
  rw [show chkN s.data.toList = 2 by unfold chkN; rw [if_neg (by rw [hn]; simp)]] at hC
  have HC := Lib.hid hC
  clear hC hn hs
  go_enter Try.func14, Try.ntmps14
  go_wp2_with (fail)
  with_reducible refine (HC.out _).mono ?_
  rintro e w1 ⟨rfl, hb⟩
  go_wp2_with (fail)
  go_ret2
  exact ⟨rfl, hb⟩

theorem shr_mod (d j : Nat) : ((d : Int) / 2 ^ (j % 64)).tmod 2 = if bitN d j = true then 1 else 0 := by
  have e : ((d / 2 ^ (j % 64) : Nat) : Int) = (d : Int) / 2 ^ (j % 64) := by rw [Int.natCast_ediv, Int.natCast_pow]; rfl
  rw [← e, Int.tmod_eq_emod_of_nonneg (Int.natCast_nonneg _)]
  unfold bitN
  by_cases h : d / 2 ^ (j % 64) % 2 = 1
  · simp only [h, decide_true, if_true]; omega
  · simp only [h, decide_false, Bool.false_eq_true, if_false]; omega

set_option maxRecDepth 100000 in
set_option maxHeartbeats 2000000 in
theorem rMix_yes (s : ByteArray) (d : Nat) (hs : s.size ≤ maxLen) (hn : isName s.data.toList = true) (w : World) :
    Calls Try.prog 14 #[.string s, .int .u64 (d : Int)] w fun e w' => e = .returned (.tuple #[.string ⟨(mixL d s.data.toList).toArray⟩, .int .i64 0]) ∧ Below w.heap.size w w' := by
  have hC := fun W => rCheck_any s hs W
  rw [show chkN s.data.toList = 0 by unfold chkN; rw [if_pos hn]] at hC
  have HC := Lib.hid hC
  have HL := Lib.hid (fun W => rletters_any s hs W)
  have HFo := Lib.hid (fun W => rFold_any s (by unfold maxLen at hs; omega) W)
  have h255 : s.size ≤ 255 := by have := ((isName_iff _).1 hn).1; simpa using this
  have hl := letL_len255 s.data.toList
  have hI : ((letL s.data.toList).length : Int) ≤ 255 := by omega
  obtain ⟨F, hF⟩ : ∃ F : ByteArray, (⟨(foldB s.data.toList).toArray⟩ : ByteArray) = F := ⟨_, rfl⟩
  have hFl : F.data.toList = foldB s.data.toList := by rw [← hF]
  have hFs : F.size = s.size := by rw [← hF]; show (foldB s.data.toList).toArray.size = _; rw [List.size_toArray, foldB_length]; simp
  rw [hF] at HFo
  have hcv := fun w : World => run_bytes_of_string (P := Try.prog) w _ _ _ F Try.underlying9 Try.underlying57 Try.underlying5
  have hsz : s.data.toList.length = s.size := by simp
  have HS := Lib.hid (And.intro hsz (And.intro hn h255))
  have HFs := Lib.hid hFs
  have HFl := Lib.hid hFl
  clear hC hs hF hsz hl hFs hFl
  go_enter Try.func14, Try.ntmps14
  go_wp2_with (fail)
  with_reducible refine (HC.out _).mono ?_
  rintro e w1 ⟨rfl, hb1⟩
  have HB1 := Lib.hid hb1
  clear hb1
  go_wp2_with (fail)
  with_reducible refine (HFo.out _).mono ?_
  rintro e w2 ⟨rfl, hb2⟩
  have HB2 := Lib.hid (HB1.out.trans (hb2.mono HB1.out.size))
  clear hb2
  go_wp2_with (fail)
  have HR0 := Lib.hid (byR_new w2 F (grownCap w2 F.size 0 5))
  generalize grownCap w2 F.size 0 5 = cap at HR0 ⊢
  have HB3 := Lib.hid (((Below.refl w2.heap.size w2).alloc (Nat.le_refl _) (.cells (bytesRow F cap) 5 ((bytesRow F cap).size, (bytesRow F cap).size + 1))).drew)
  generalize hW3 : (w2.alloc (.cells (bytesRow F cap) 5 ((bytesRow F cap).size, (bytesRow F cap).size + 1))).drew = w3 at HR0 HB3 ⊢
  clear hW3
  with_reducible refine (HL.out _).mono ?_
  rintro e w4 ⟨A, c, rfl, hS, hb4, hown⟩
  have hR1 := HR0.out.below hb4 HR0.out.lt
  rw [HFl.out] at hR1
  have HR1 := Lib.hid hR1
  have HSl := Lib.hid (And.intro hS hown)
  have HW := Lib.hid (And.intro HR0.out.lt (HB2.out.trans ((HB3.out.trans (hb4.mono HB3.out.size)).mono HB2.out.size)))
  have hsz2 := HB2.out.size
  clear hR1 hS hown hb4 hcv
  go_wp2_with (fail)
  go_loopg [18] (letL s.data.toList).length (fun g kk wr => ∃ (k : Nat), g + k = (letL s.data.toList).length ∧ kk = .int .i64 (k : Int) ∧ Aside (ByR wr w2.heap.size (outR d s.data.toList ((letL s.data.toList).take k))) ∧ Aside (Below w.heap.size w wr) ∧ Aside (Sl wr 1 (.slice A (letL s.data.toList).length c) (letL s.data.toList).length (ints (letL s.data.toList))))
  case atStart => exact ⟨0, by omega, rfl, HR1.out, HW.out.2, HSl.out.1⟩
  case round =>
    obtain ⟨k, hk, rfl, hR, hbw, hSl⟩ := hrel
    by_cases hlt : k < (letL s.data.toList).length
    · obtain ⟨p, hp, hpl, hpb, hat⟩ := outR_next (d := d) HS.out.2.1 hlt
      have hps : p < s.size := by simpa using hpl
      have hpI : (p : Int) < (F.size : Int) := by have := HFs.out; omega
      have hkI : (k : Int) < ((letL s.data.toList).length : Int) := by omega
      obtain ⟨g, cap2, hv2, hg, _, _, h4⟩ := hSl.out.form (by omega)
      injection hv2 with hA hnn hc3
      clear hnn
      have hgo := HSl.out.2 g (by rw [hA]; rfl)
      have hgne : g ≠ w2.heap.size := by have := HW.out.1; omega
      have c0 : wr.cell? ⟨g, k, none⟩ = some (.int .i64 (p : Int)) := h4 k _ (ints_at hlt hp)
      have hlen := outR_length d s.data.toList ((letL s.data.toList).take k)
      obtain ⟨b, hbk⟩ : ∃ b, (outR d s.data.toList ((letL s.data.toList).take k))[p]? = some b := ⟨_, List.getElem?_eq_getElem (by omega)⟩
      have hbb : b = lowB (at0 s.data.toList p) := by rw [← hat, at0_eq hbk]
      have c1 := hR.out.cell hbk
      have f1 := hR.out.frozen (j := p) (by omega)
      have l1 := hR.out.lt
      have hsub := low_sub (at0 s.data.toList p) hpb
      rw [← hbb] at hsub
      have hsn := outR_snoc d s.data.toList ((letL s.data.toList).take k) (p, k)
      rw [← hp, ← List.take_succ_eq_append_getElem hlt, hp] at hsn
      dsimp only at hsn
      rw [at0_eq hbk] at hsn
      have HX := Lib.hid (And.intro hsn (And.intro hlt hgne))
      have hmod := shr_mod d k
      have hb255 := b.toNat_lt
      have hbI : (32 : Int) ≤ (b.toNat : Int) := by omega
      have hcI : ((b.toNat : Int) - 32) = (((b - 32).toNat : Nat) : Int) := by omega
      have HcI := Lib.hid hcI
      have hk255 : (k : Int) ≤ 255 := by omega
      clear h4 hsn hat hp hpl hlt hgne hpb hbb hlen hbk hsub hcI
      cases hbit : bitN d k
      · rw [hbit, if_neg (by simp)] at hmod
        have e1 := HX.out.1
        rw [hbit, if_neg (by simp)] at e1
        have E1 := Lib.hid e1
        clear e1 hbit
        go_wp2_with (fail)
        go_roundg ((letL s.data.toList).length - (k + 1))
        case measure => have := HX.out.2.1; omega
        case rel =>
          refine ⟨k + 1, by have := HX.out.2.1; omega, by go_num, ?_, hbw.out, hSl.out⟩
          show ByR _ _ _
          rw [E1.out]
          exact hR.out
      · rw [hbit, if_pos rfl] at hmod
        have e1 := HX.out.1
        rw [hbit, if_pos rfl] at e1
        have E1 := Lib.hid e1
        clear e1 hbit
        go_wp2_with (fail)
        go_roundg ((letL s.data.toList).length - (k + 1))
        case measure => have := HX.out.2.1; omega
        case rel =>
          refine ⟨k + 1, by have := HX.out.2.1; omega, by go_num, ?_, hbw.out.setCell (p := ⟨w2.heap.size, p, none⟩) hsz2 _, ?_⟩
          · show ByR _ _ _
            rw [E1.out, HcI.out]
            exact hR.out.set_ p (b - 32)
          · refine hSl.out.far (p := ⟨w2.heap.size, p, none⟩) ?_ _
            intro g' hg'
            rw [hA] at hg'
            have : g = g' := by simpa [Value.ownBlock] using hg'
            have := HX.out.2.2
            show g' ≠ w2.heap.size
            omega
    · obtain rfl : k = (letL s.data.toList).length := by omega
      have hR2 := hR.out
      rw [List.take_length, outR_mix HS.out.2.1] at hR2
      have hst := hR2.str (P := Try.prog) (src := 57) (dst := 9) cap Try.underlying57 Try.underlying5 Try.underlying9
      rw [mixL_length, HS.out.1, ← HFs.out] at hst
      have HF := Lib.hid hbw.out
      clear hR hR2 hbw hSl hlt
      go_wp2_with (fail)
      go_ret2
      exact ⟨rfl, HF.out⟩
end Go.Proofs.Ytjhhhkhcnohmiaa
