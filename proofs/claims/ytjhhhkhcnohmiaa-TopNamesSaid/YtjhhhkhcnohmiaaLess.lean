/- The walks of package walk's rising and Less. -/
import Derived.Test.YtjhhhkhcnohmiaaCollect
namespace Go.Proofs.Ytjhhhkhcnohmiaa
open Go.RowKit Go.Lib

/-- A name's labels in small letters, the last one first. -/
def ris (n : Bs) : List Bs := (namL (foldB n)).reverse
/-- Does a name stand ahead? -/
def lessP (a b : Bs) : Bool := isName a && (isName b && decide (cmpL (ris a) (ris b) < 0))
theorem Labels_any (s : ByteArray) (w : World) : Calls Try.prog 55 #[.string s] w fun e w' => e = .returned (.func (.func 80) #[] #[.pointer (some ⟨w.heap.size, 0, none⟩)]) ∧ w' = w.alloc (.cells #[.string s] 9) :=
  (callsIn_wide (n := 8)).1 (Labels_in 8 s w)
theorem sl_tt {w : World} {A : Option Addr} {c : Nat} {L : List Bs} (h : Sl w 1 (.slice A L.length c) L.length (strs L)) : TTab w A (strs L) := by
  rw [← strs_len L] at h
  exact ttab_of_sl h

set_option maxRecDepth 100000 in
set_option maxHeartbeats 2000000 in
theorem rising_any (n : ByteArray) (hn : n.size ≤ 1000000) (w : World) : Calls Try.prog 65 #[.string n] w (CollPost (ris n.data.toList) w) := by
  have hF := Lib.hid (Fold_any n (by omega) w)
  obtain ⟨s, hs⟩ : ∃ s : ByteArray, (⟨(foldB n.data.toList).toArray⟩ : ByteArray) = s := ⟨_, rfl⟩
  rw [hs] at hF
  have hsl : s.data.toList = foldB n.data.toList := by rw [← hs]
  have hsz : s.size ≤ 1000000 := by
    have h1 : s.data.toList.length = n.data.toList.length := by rw [hsl, foldB_length]
    simp at h1
    omega
  have hSM := Lib.hid (fun W B hB => Labels1_M B s (by unfold maxLen; omega) W hB)
  have hlen : (namL s.data.toList).length ≤ 1000000 := by
    have h1 := namL_length_le s.data.toList
    simp at h1
    omega
  unfold ris
  rw [← hsl]
  generalize namL s.data.toList = L at hSM hlen ⊢
  have HL := Lib.hid hlen
  clear hs hsl hsz hlen hn
  go_enter Try.func65, Try.ntmps65
  go_wp2_with (fail)
  refine hF.out.mono ?_
  rintro e w1 ⟨rfl, hb⟩
  have B1 := Lib.hid hb
  clear hb hF
  go_wp2_with (fail)
  refine (Labels_any s w1).mono ?_
  rintro e w2 ⟨rfl, rfl⟩
  have HC := Lib.hid (collect_any L (w1.alloc (.cells #[.string s] 9)) (hSM.out _ w1.heap.size (Blk.new w1 _ _)) (by simp) (enters_of Try.func80 (by kernel_rfl) rfl) HL.out)
  have B2 := Lib.hid (B1.out.alloc B1.out.size (.cells #[.string s] 9))
  have HZ := Lib.hid (show w1.heap.size ≤ (w1.alloc (.cells #[.string s] 9)).heap.size from by simp)
  go_wp2_with (fail)
  refine HC.out.mono ?_
  rintro e w3 ⟨A, c, rfl, h1, h2, h3⟩
  have B3 := Lib.hid (B2.out.trans (h3.mono B2.out.size))
  have hLs : (L.map fun x => (⟨x.toArray⟩ : ByteArray)).map Value.string = strs L := by simp [strs]
  have hLl : (L.map fun x => (⟨x.toArray⟩ : ByteArray)).length = L.length := List.length_map _
  have hR := Lib.hid (reverse_any A c (L.map fun x => ⟨x.toArray⟩) w3 (by rw [hLl, hLs]; exact h1) (by rw [hLl]; exact HL.out))
  have hR2 : Hid (Calls Try.prog 85 #[.slice A L.length c] w3 fun e w' => e = .returned (.tuple #[]) ∧ Sl w' 1 (.slice A L.length c) L.length (strs L.reverse) ∧ KeepK (fun i => i < w3.heap.size ∧ (Value.slice A L.length c).ownBlock ≠ some i) w3 w') := by
    have h := hR.out
    rw [List.length_map] at h
    have e : ((L.map fun x => (⟨x.toArray⟩ : ByteArray)).reverse).map Value.string = strs L.reverse := by simp [strs]
    rw [e] at h
    exact Lib.hid h
  have HO := Lib.hid h2
  clear h1 h2 h3 hR HC hLs hLl
  go_wp2_with (fail)
  refine hR2.out.mono ?_
  rintro e w4 ⟨rfl, h1, h2⟩
  have H4 := Lib.hid (And.intro h1 (B3.out.trans (h2.below (B := w.heap.size) fun i hi => ⟨Nat.lt_of_lt_of_le hi B3.out.size, fun e => by have h5 := HO.out i e; have h6 := HZ.out; have h7 := B1.out.size; omega⟩)))
  clear h1 h2 hR2
  go_wp2_with (fail)
  go_ret
  refine ⟨A, c, by rw [List.length_reverse]; rfl, ?_, ?_, H4.out.2⟩
  · rw [List.length_reverse]; exact H4.out.1
  · rw [List.length_reverse]
    intro g hg
    have h5 := HO.out g hg
    have h6 := HZ.out
    have h7 := B1.out.size
    omega
theorem ris_len (n : Bs) : (ris n).length ≤ n.length := by
  unfold ris
  rw [List.length_reverse]
  have := namL_length_le (foldB n)
  rw [foldB_length] at this
  exact this

set_option maxRecDepth 100000 in
set_option maxHeartbeats 2000000 in
theorem Less_any (a b : ByteArray) (ha : a.size ≤ maxLen) (hb : b.size ≤ maxLen) (w : World) : Calls Try.prog 37 #[.string a, .string b] w fun e w' => e = .returned (.bool (lessP a.data.toList b.data.toList)) ∧ Below w.heap.size w w' := by
  have HA := Lib.hid (fun W => Check_any a ha W)
  have HB := Lib.hid (fun W => Check_any b hb W)
  obtain ⟨q, hq⟩ : ∃ q, lessP a.data.toList b.data.toList = q := ⟨_, rfl⟩
  rw [hq]
  unfold lessP at hq
  rcases chk_cases a.data.toList with ⟨ha1, ha2⟩ | ⟨ha1, ha2⟩
  · rw [ha2] at HA
    rcases chk_cases b.data.toList with ⟨hb1, hb2⟩ | ⟨hb1, hb2⟩
    · rw [hb2] at HB
      rw [ha1, hb1, Bool.true_and, Bool.true_and] at hq
      have ha := ((isName_iff _).1 ha1).1
      have hb := ((isName_iff _).1 hb1).1
      simp only [ByteArray.size_data, Array.length_toList] at ha hb
      have HRa := Lib.hid (fun W => rising_any a (by omega) W)
      have HRb := Lib.hid (fun W => rising_any b (by omega) W)
      have hla := ris_len a.data.toList
      have hlb := ris_len b.data.toList
      simp only [ByteArray.size_data, Array.length_toList] at hla hlb
      generalize ris a.data.toList = xs at HRa hla hq
      generalize ris b.data.toList = ys at HRb hlb hq
      have HQ := Lib.hid (And.intro hq (And.intro (show xs.length ≤ 1000000 from by omega) (show ys.length ≤ 1000000 from by omega)))
      clear hq hla hlb ha1 ha2 hb1 hb2 ha hb
      go_enter Try.func37, Try.ntmps37
      go_wp2_with (fail)
      refine (HA.out _).mono ?_
      rintro e w1 ⟨rfl, hb⟩
      have L1 := Lib.hid hb
      clear hb
      go_wp2_with (fail)
      refine (HB.out _).mono ?_
      rintro e w2 ⟨rfl, hb⟩
      have L2 := Lib.hid (L1.out.trans (hb.mono L1.out.size))
      clear hb
      go_wp2_with (fail)
      refine (HRa.out _).mono ?_
      rintro e w3 ⟨A, c, rfl, h1, h2, h3⟩
      have L3 := Lib.hid (L2.out.trans (h3.mono L2.out.size))
      have T3 := Lib.hid (sl_tt h1)
      clear h1 h2 h3
      go_wp2_with (fail)
      refine (HRb.out _).mono ?_
      rintro e w4 ⟨B, d, rfl, h1, h2, h3⟩
      have L4 := Lib.hid (L3.out.trans (h3.mono L3.out.size))
      have HC := Lib.hid (compareL_any xs ys A B c d w4 (T3.out.below h3) (sl_tt h1) HQ.out.2.1 HQ.out.2.2)
      clear h1 h2 h3
      go_wp2_with (fail)
      refine HC.out.mono ?_
      rintro e w5 ⟨rfl, rfl⟩
      go_wp2_with (fail)
      all_goals
        go_ret
        rw [← HQ.out.1]
        refine ⟨?_, L4.out⟩
        first | rfl | simp_all
    · rw [hb2] at HB
      rw [ha1, hb1, Bool.true_and, Bool.false_and] at hq
      subst hq
      clear ha1 ha2 hb1 hb2 ha hb
      go_enter Try.func37, Try.ntmps37
      go_wp2_with (fail)
      refine (HA.out _).mono ?_
      rintro e w1 ⟨rfl, hb⟩
      have L1 := Lib.hid hb
      clear hb
      go_wp2_with (fail)
      refine (HB.out _).mono ?_
      rintro e w2 ⟨rfl, hb⟩
      have L2 := Lib.hid (L1.out.trans (hb.mono L1.out.size))
      clear hb
      go_wp2_with (fail)
      go_ret
      exact ⟨rfl, L2.out⟩
  · rw [ha2] at HA
    rw [ha1, Bool.false_and] at hq
    subst hq
    clear ha1 ha2 ha hb HB
    go_enter Try.func37, Try.ntmps37
    go_wp2_with (fail)
    refine (HA.out _).mono ?_
    rintro e w1 ⟨rfl, hb⟩
    have L1 := Lib.hid hb
    clear hb
    go_wp2_with (fail)
    go_ret
    exact ⟨rfl, L1.out⟩
end Go.Proofs.Ytjhhhkhcnohmiaa
