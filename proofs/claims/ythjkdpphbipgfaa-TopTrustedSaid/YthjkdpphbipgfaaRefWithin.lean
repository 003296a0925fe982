/- The walks of hardtackref01's Make, Count, Within, Same. The walks of hardtackref01's Within, hardtackref02's Depth. -/
import Derived.Test.YthjkdpphbipgfaaNamesP
import Derived.Test.YthjkdpphbipgfaaStrsP
import Derived.Test.YthjkdpphbipgfaaTTab
import Derived.Test.YthjkdpphbipgfaaRefFold
import Derived.Deep.LoopGhost
import Derived.Outline
namespace Go.Proofs.Ythjkdpphbipgfaa
open Go.RowKit Go.Lib

/-- What is left of a slice behind its first i. -/
theorem tail_run {P : Program} {t : TypeId} (ht : P.underlying t = some (.slice (P.elem t))) (hs : ∀ w, (sizeOf (P.elem t)).run P w = .ok 1 w) {w : World} {A : Option Addr} {xs : List Value} (c i : Nat) (h : TTab w A xs) (hi : i ≤ xs.length) (hc : xs.length ≤ c) :
    ∃ A' c', (∀ W : World, (Instr.slice t (.slice A xs.length c) (some (.int .i64 (i : Int))) none none).run P W = .ok (.slice A' (xs.drop i).length c') W) ∧ TTab w A' (xs.drop i) := by
  refine ⟨if c = i then A else A.map (·.add (i * 1)), c - i, fun W => ?_, fun hn => ?_⟩
  · rw [run_slice_l (P := P) W t A xs.length c ht .i64 (i : Int) (by omega) (by omega), hs]
    simp [Result.andThen, sliced]
  · rw [List.length_drop] at hn
    obtain ⟨b, o, hA, hlt, hcc⟩ := h (by omega)
    rw [if_neg (by omega), hA]
    refine ⟨b, o + i, ?_, hlt, fun j u hu => ?_⟩
    · show some (Addr.add ⟨b, o, none⟩ (i * 1)) = _
      unfold Addr.add
      simp
    · rw [List.getElem?_drop] at hu
      rw [Nat.add_assoc]
      exact hcc _ u hu
theorem enc_one (ls : List Bs) (x : Bs) : enc (ls ++ [x]) = enc ls ++ (UInt8.ofNat x.length :: x) := by
  rw [enc_append]
  simp [enc]
theorem ba_app (a b : ByteArray) : (a ++ b).data.toList = a.data.toList ++ b.data.toList := by
  rw [ByteArray.data_append]; simp

set_option maxRecDepth 100000 in
set_option maxHeartbeats 2000000 in
theorem rMake_any (ls : List Bs) (A : Option Addr) (c : Nat) (w : World) (h : TTab w A (strs ls)) (hok : ∀ x ∈ ls, okL x) (hl : ls.length ≤ 1000) :
    Calls Try.prog 83 #[.slice A ls.length c] w fun e w' => e = .returned (.string ⟨(mk ls).toArray⟩) ∧ Below w.heap.size w w' := by
  have HA := Lib.hid h
  have HO := Lib.hid hok
  have hlI : (ls.length : Int) ≤ 1000 := by omega
  clear h hok
  go_enter Try.func83, Try.ntmps83
  go_wp2_with (fail)
  go_loopg [3, 5, 8] ls.length (fun g v3 _ v8 wr => ∃ (k : Nat) (S : ByteArray), v8 = .int .i64 (k : Int) ∧ v3 = .string S ∧ Aside (g + k = ls.length) ∧ Aside (S.data.toList = enc (ls.take k) ∧ S.size ≤ 64 * k) ∧ Aside (Below w.heap.size w wr))
  case atStart => exact ⟨0, ⟨#[]⟩, rfl, rfl, (by show _ + 0 = _; rfl), ⟨rfl, by decide⟩, Below.refl _ _⟩
  case round =>
    obtain ⟨k, S, rfl, rfl, hg, hS, hB⟩ := hrel
    have hS1 : S.size ≤ 64000 := by have := hS.out.2; have := hg.out; omega
    by_cases hlt : k < ls.length
    · obtain ⟨b0, o, rfl, hal, hac⟩ := HA.out (by rw [strs_len]; omega)
      obtain ⟨x, hxk⟩ : ∃ x, ls[k]? = some x := ⟨_, List.getElem?_eq_getElem hlt⟩
      have a0 : wr.cell? ⟨b0, o + k, none⟩ = some (.string ⟨x.toArray⟩) := (hB.out.cell (p := ⟨b0, o + k, none⟩) hal).trans (hac k _ (strs_get hxk))
      have hltI : (k : Int) < (ls.length : Int) := by omega
      have hox := HO.out x (List.mem_of_getElem? hxk)
      obtain ⟨X, hX⟩ : ∃ X : ByteArray, (⟨x.toArray⟩ : ByteArray) = X := ⟨_, rfl⟩
      have hXs : X.size = x.length := by rw [← hX]; simp [ByteArray.size]
      have hXl : X.data.toList = x := by rw [← hX]
      rw [hX] at a0
      have hx1 : (X.size : Int) ≤ 63 := by have := hox.2; omega
      have hx0 : 1 ≤ (X.size : Int) := by have := hox.1; omega
      have hcv : (convert 129 9 (.slice (some ⟨wr.heap.size, 0, none⟩) 1 1)).run Try.prog (wr.alloc (.cells #[.int .u8 (X.size : Int)] 5)) = .ok (.string ⟨#[UInt8.ofNat X.size]⟩) (wr.alloc (.cells #[.int .u8 (X.size : Int)] 5)) := by
        refine run_convert_bytes_back (P := Try.prog) _ 129 9 5 ⟨wr.heap.size, 0, none⟩ 1 [UInt8.ofNat X.size] Try.underlying129 Try.underlying5 Try.underlying9 (fun j hj => ?_)
        have ea : (⟨wr.heap.size, 0, none⟩ : Addr).add j = ⟨wr.heap.size, j, none⟩ := by unfold Addr.add; split <;> simp_all
        rw [ea, (Blk.new wr 5 _).cell j]
        have hj2 : j < 1 := hj
        match j, hj2 with
        | 0, _ =>
          show some (Value.int .u8 (X.size : Int)) = some (.int .u8 ((UInt8.ofNat X.size).toNat : Int))
          rw [UInt8.toNat_ofNat', show X.size % 2 ^ 8 = X.size by omega]
      obtain ⟨H, hH⟩ : ∃ H : ByteArray, (⟨#[UInt8.ofNat X.size]⟩ : ByteArray) = H := ⟨_, rfl⟩
      have hHs : H.size = 1 := by rw [← hH]; rfl
      rw [hH] at hcv
      have hHX : (H ++ X).size = 1 + X.size := by rw [ByteArray.size_append, hHs]
      have hc1 : H.size + X.size ≤ 9223372036854775807 := by omega
      have hc2 : S.size + (H ++ X).size ≤ 9223372036854775807 := by omega
      have HE : Hid ((S ++ (H ++ X)).data.toList = enc (ls.take (k + 1)) ∧ (S ++ (H ++ X)).size ≤ 64 * (k + 1)) := Lib.hid (by
        obtain ⟨q1, q2⟩ := List.getElem?_eq_some_iff.1 hxk
        refine ⟨?_, ?_⟩
        · rw [List.take_succ_eq_append_getElem q1, q2, enc_one, ba_app, ba_app, hS.out.1, hXl, ← hH, hXs]
          rfl
        · rw [ByteArray.size_append, hHX]
          have := hS.out.2
          omega)
      have hBA : Hid (Below w.heap.size w (wr.alloc (.cells #[.int .u8 (X.size : Int)] 5))) := Lib.hid (hB.out.alloc hB.out.size _)
      clear hac hxk hox hX hXs hXl hH hHX hHs
      go_wp2_with (fail)
      go_roundg (ls.length - (k + 1))
      case measure => have := hg.out; omega
      case rel => exact ⟨k + 1, S ++ (H ++ X), by go_num, rfl, (by show _ = _; have := hg.out; omega), HE.out, hBA.out⟩
    · obtain rfl : k = ls.length := by have := hg.out; omega
      have hc : S.size + (⟨#[0]⟩ : ByteArray).size ≤ 9223372036854775807 := by show S.size + 1 ≤ _; omega
      go_wp2_with (fail)
      go_ret
      refine ⟨?_, hB.out⟩
      have h1 := hS.out.1
      rw [List.take_length] at h1
      show Ending.returned (.string (S ++ ⟨#[0]⟩)) = _
      congr 2
      apply ByteArray.ext
      apply Array.toList_inj.1
      show (S ++ (⟨#[0]⟩ : ByteArray)).data.toList = mk ls
      rw [ba_app, h1]
      rfl

end Go.Proofs.Ythjkdpphbipgfaa

namespace Go.Proofs.Ythjkdpphbipgfaa
open Go.RowKit Go.Lib

theorem mk_drop {l : Bs} (h : isName l = true) (k : Nat) : mk ((labs l).1.drop k) = l.drop (pos (labs l).1 k) := by
  have h1 := mk_labs (drop_name h k)
  rw [drop_labs h] at h1
  exact h1
/-- Within, as the reference asks it. -/
theorem within_mk {a z : Bs} (ha : isName a = true) (hz : isName z = true) (hle : (labs z).1.length ≤ (labs a).1.length) :
    withinB a z = decide (foldB (mk ((labs a).1.drop ((labs a).1.length - (labs z).1.length))) = foldB z) := by
  rw [Bool.eq_iff_iff, decide_eq_true_iff, within_low ha hz, mk_drop ha, fold_eq_iff (drop_name ha _) hz]
  show _ ↔ lowL _ = lowL z
  rw [lowL_drop ha]
  have e1 : (lowL a).length = (labs a).1.length := by simp [lowL]
  have e2 : (lowL z).length = (labs z).1.length := by simp [lowL]
  constructor
  · intro h
    have := suffix_drop h
    rw [e1, e2] at this
    exact this.symm
  · intro h
    rw [← h]
    exact List.drop_suffix _ _
theorem within_short {a z : Bs} (ha : isName a = true) (hz : isName z = true) (hlt : (labs a).1.length < (labs z).1.length) : withinB a z = false := by
  rw [Bool.eq_false_iff]
  intro h
  have := within_len h
  omega

set_option maxRecDepth 100000 in
set_option maxHeartbeats 4000000 in
theorem rWithin_any (a z : ByteArray) (ha : a.size ≤ maxLen) (hz : z.size ≤ maxLen) (w : World) : Calls Try.prog 47 #[.string a, .string z] w fun e w' => e = .returned (.bool (withinB a.data.toList z.data.toList)) ∧ Below w.heap.size w w' := by
  have HSa := Lib.hid (fun W => rSplit_any a ha W)
  have HSz := Lib.hid (fun W => rSplit_any z hz W)
  have hszf := fun w : World => (show (sizeOf 9).run Try.prog w = .ok 1 w from by rfl)
  obtain ⟨r, hr⟩ : ∃ r, withinB a.data.toList z.data.toList = r := ⟨_, rfl⟩
  rw [hr]
  cases h1 : isName a.data.toList with
  | false =>
    have hrf : r = false := by rw [← hr, within_no h1]
    subst hrf
    have H1 := Lib.hid h1
    obtain ⟨q, hq⟩ : ∃ q, isName z.data.toList = q := ⟨_, rfl⟩
    have HQ := Lib.hid hq
    clear h1 hr hq ha hz hszf
    go_enter Try.func47, Try.ntmps47
    go_wp2_with (fail)
    with_reducible refine (HSa.out _).mono ?_
    rintro e w1 ⟨v, rfl, ⟨A, n, c, rfl⟩, _, hb⟩
    rw [H1.out]
    have B1 := Lib.hid hb
    clear hb
    go_wp2_with (fail)
    with_reducible refine (HSz.out _).mono ?_
    rintro e w2 ⟨v, rfl, ⟨A2, n2, c2, rfl⟩, _, hb⟩
    rw [HQ.out]
    have B2 := Lib.hid (B1.out.trans (hb.mono B1.out.size))
    clear hb
    go_wp2_with (fail)
    go_ret
    exact ⟨rfl, B2.out⟩
  | true =>
    cases h2 : isName z.data.toList with
    | false =>
      have hrf : r = false := by rw [← hr, within_no2 h2]
      subst hrf
      have H1 := Lib.hid (And.intro h1 h2)
      clear h1 h2 hr ha hz hszf
      go_enter Try.func47, Try.ntmps47
      go_wp2_with (fail)
      with_reducible refine (HSa.out _).mono ?_
      rintro e w1 ⟨v, rfl, ⟨A, n, c, rfl⟩, _, hb⟩
      rw [H1.out.1]
      have B1 := Lib.hid hb
      clear hb
      go_wp2_with (fail)
      with_reducible refine (HSz.out _).mono ?_
      rintro e w2 ⟨v, rfl, ⟨A2, n2, c2, rfl⟩, _, hb⟩
      rw [H1.out.2]
      have B2 := Lib.hid (B1.out.trans (hb.mono B1.out.size))
      clear hb
      go_wp2_with (fail)
      go_ret
      exact ⟨rfl, B2.out⟩
    | true =>
      have hla := labs_length_le a.data.toList
      have hlz := labs_length_le z.data.toList
      have h255 := ((isName_iff _).1 h1).1
      have h255z := ((isName_iff _).1 h2).1
      obtain ⟨la, hla'⟩ : ∃ la, (labs a.data.toList).1 = la := ⟨_, rfl⟩
      obtain ⟨lz, hlz'⟩ : ∃ lz, (labs z.data.toList).1 = lz := ⟨_, rfl⟩
      have hmk := within_mk h1 h2
      have hsh := within_short h1 h2
      have hok := labs_ok a.data.toList
      rw [hla', hlz', hr] at hmk
      rw [hla', hlz', hr] at hsh
      rw [hla'] at hla hok
      rw [hlz'] at hlz
      have hzn : z.size ≤ 9223372036854775807 := by unfold maxLen at hz; omega
      have hI1 : (la.length : Int) ≤ 255 := by omega
      have hI2 : (lz.length : Int) ≤ 255 := by omega
      have H1 := Lib.hid (And.intro h1 (And.intro h2 (And.intro hla' (And.intro hlz' hok))))
      by_cases hle : lz.length ≤ la.length
      · have hm := hmk hle
        have hI3 : (lz.length : Int) ≤ (la.length : Int) := by omega
        obtain ⟨k, hk⟩ : ∃ k, la.length - lz.length = k := ⟨_, rfl⟩
        have hkI : (la.length : Int) - (lz.length : Int) = (k : Int) := by omega
        rw [hk] at hm
        have HM := Lib.hid (And.intro hm hk)
        have HFz := Lib.hid (fun W => rFold_any z hzn W)
        have HI := Lib.hid hkI
        clear h1 h2 hr hmk hsh hok hla' hlz' hla hlz h255 h255z ha hz hle hm hk hkI hzn
        go_enter Try.func47, Try.ntmps47
        go_wp2_with (fail)
        with_reducible refine (HSa.out _).mono ?_
        rintro e w1 ⟨v, rfl, _, hs1, hb⟩
        have hs1' := hs1 H1.out.1
        rw [H1.out.2.2.1] at hs1'
        obtain ⟨A, c, rfl, hcc, _⟩ := hs1'.shape
        have T1 := Lib.hid (And.intro (sl_tt hs1') hcc)
        rw [H1.out.1]
        have B1 := Lib.hid hb
        clear hb hs1 hs1' hcc
        go_wp2_with (fail)
        with_reducible refine (HSz.out _).mono ?_
        rintro e w2 ⟨v, rfl, _, hs2, hb⟩
        have hs2' := hs2 H1.out.2.1
        rw [H1.out.2.2.2.1] at hs2'
        obtain ⟨A2, c2, rfl, _, _⟩ := hs2'.shape
        rw [H1.out.2.1]
        have hT2 := T1.out.1.below hb
        have B2 := Lib.hid (B1.out.trans (hb.mono B1.out.size))
        have hlen : (strs la).length = la.length := strs_len la
        obtain ⟨A3, c3, hrun, hT3⟩ := tail_run (P := Try.prog) (t := 83) Try.underlying83 hszf c k hT2 (by rw [hlen]; have := HM.out.2; omega) (by rw [hlen]; exact T1.out.2)
        have hd : (strs la).drop k = strs (la.drop k) := by simp [strs, List.map_drop]
        rw [hd] at hT3
        rw [hd, hlen, strs_len, ← HI.out] at hrun
        have HT3 := Lib.hid hT3
        have hd3 : (la.drop k).length ≤ 1000 := by rw [List.length_drop]; omega
        have hMK := rMake_any (la.drop k) A3 c3 w2 hT3 (fun x hx => H1.out.2.2.2.2 x (List.mem_of_mem_drop hx)) hd3
        rw [List.length_drop] at hMK hrun
        have HMK := Lib.hid hMK
        clear hMK
        clear hb hs2 hs2' hT2 hlen hT3 hd hd3 hszf
        obtain ⟨X, hX⟩ : ∃ X : ByteArray, (⟨(mk (la.drop k)).toArray⟩ : ByteArray) = X := ⟨_, rfl⟩
        have hXl : X.data.toList = mk (la.drop k) := by rw [← hX]
        rw [hX] at HMK
        have hXs : X.size ≤ 9223372036854775807 := by
          have h1 : X.data.toList.length = X.size := by simp
          have h2 := mk_drop H1.out.1 k
          rw [H1.out.2.2.1] at h2
          have h3 : X.data.toList.length ≤ a.data.toList.length := by rw [hXl, h2, List.length_drop]; omega
          simp at h3
          have := ((isName_iff _).1 H1.out.1).1
          simp at this
          omega
        have HFx := Lib.hid (fun W => rFold_any X hXs W)
        rw [hXl] at HFx
        obtain ⟨F1, hF1⟩ : ∃ F : ByteArray, (⟨(foldB (mk (la.drop k))).toArray⟩ : ByteArray) = F := ⟨_, rfl⟩
        obtain ⟨F2, hF2⟩ : ∃ F : ByteArray, (⟨(foldB z.data.toList).toArray⟩ : ByteArray) = F := ⟨_, rfl⟩
        rw [hF1] at HFx
        rw [hF2] at HFz
        have hr2 : (F1.toList == F2.toList) = r := by
          rw [HM.out.1, ByteArray.toList_eq, ByteArray.toList_eq, ← hF1, ← hF2]
          rw [Bool.eq_iff_iff, decide_eq_true_iff, beq_iff_eq]
        clear hX hXl hXs hF1 hF2
        go_wp2_with (fail)
        with_reducible refine (HMK.out).mono ?_
        rintro e w3 ⟨rfl, hb⟩
        have B3 := Lib.hid (B2.out.trans (hb.mono B2.out.size))
        clear hb hrun
        go_wp2_with (fail)
        with_reducible refine (HFx.out _).mono ?_
        rintro e w4 ⟨rfl, hb⟩
        have B4 := Lib.hid (B3.out.trans (hb.mono B3.out.size))
        clear hb
        go_wp2_with (fail)
        with_reducible refine (HFz.out _).mono ?_
        rintro e w5 ⟨rfl, hb⟩
        have B5 := Lib.hid (B4.out.trans (hb.mono B4.out.size))
        clear hb
        go_wp2_with (fail)
        go_ret
        exact ⟨rfl, B5.out⟩
      · have hrf : r = false := hsh (by omega)
        subst hrf
        have hI3 : ¬ (lz.length : Int) ≤ (la.length : Int) := by omega
        clear h1 h2 hr hmk hsh hok hla' hlz' hla hlz h255 h255z ha hz hszf hle
        go_enter Try.func47, Try.ntmps47
        go_wp2_with (fail)
        with_reducible refine (HSa.out _).mono ?_
        rintro e w1 ⟨v, rfl, _, hs1, hb⟩
        have hs1' := hs1 H1.out.1
        rw [H1.out.2.2.1] at hs1'
        obtain ⟨A, c, rfl, _, _⟩ := hs1'.shape
        rw [H1.out.1]
        have B1 := Lib.hid hb
        clear hb hs1 hs1'
        go_wp2_with (fail)
        with_reducible refine (HSz.out _).mono ?_
        rintro e w2 ⟨v, rfl, _, hs2, hb⟩
        have hs2' := hs2 H1.out.2.1
        rw [H1.out.2.2.2.1] at hs2'
        obtain ⟨A2, c2, rfl, _, _⟩ := hs2'.shape
        rw [H1.out.2.1]
        have B2 := Lib.hid (B1.out.trans (hb.mono B1.out.size))
        clear hb hs2 hs2'
        go_wp2_with (fail)
        go_ret
        exact ⟨rfl, B2.out⟩
end Go.Proofs.Ythjkdpphbipgfaa
