/- The law TopReverse, walked. Condition: the table of powers lies in memory as the program's text lays it. -/
import Derived.Test.YtenmhfhnhfhooaaDoorRevLaw
import Derived.Test.YtenmhfhnhfhooaaDoorMixBack
import Derived.Test.YtenmhfhnhfhooaaDoorTopBegin
namespace Go.Proofs.YtenmhfhnhfhooaaDoor
open Go.RowKit Go.Lib

theorem int_beq (x y : Nat) : ((x : Int) == (y : Int)) = (x == y) := by
  by_cases h : x = y
  · subst h; simp
  · have h2 : ¬ (x : Int) = (y : Int) := by omega
    rw [beq_eq_false_iff_ne.2 h, beq_eq_false_iff_ne.2 h2]
theorem mod_beq (a b : Nat) : ((a % 1024 == b % 1024) == ((a : Int) % 1024 == (b : Int) % 1024)) = true := by
  rw [show (a : Int) % 1024 = ((a % 1024 : Nat) : Int) by omega, show (b : Int) % 1024 = ((b % 1024 : Nat) : Int) by omega, int_beq]
  simp
set_option maxRecDepth 100000 in
set_option maxHeartbeats 4000000 in
theorem topReverse_nat (x a b : Nat) (hx : x ≤ 4294967295) (ha : a ≤ 18446744073709551615) (hb : b ≤ 18446744073709551615) (w : World) (htab : PowTab w) :
    Calls Tryd.prog 3 #[.int .u32 (x : Int), .int .u64 (a : Int), .int .u64 (b : Int)] w fun e w' => e = .returned (.bool true) ∧ Below w.heap.size w w' := by
  have hnl := nameA_len x
  have hnn := nameA_name x
  obtain ⟨s, hs⟩ : ∃ s : ByteArray, (⟨(nameA x).toArray⟩ : ByteArray) = s := ⟨_, rfl⟩
  have hsl : s.data.toList = nameA x := by rw [← hs]
  have hsz : s.size ≤ maxLen := by rw [← hs]; simp [ByteArray.size]; unfold maxLen; omega
  have hsn : isName s.data.toList = true := by rw [hsl]; exact hnn
  have hR := fun W (h : PowTab W) => reverseA_any x hx W h
  rw [hs] at hR
  have hM1 := fun W => mix_ok s a ha hsz hsn W
  have hM2 := fun W => mix_ok s b hb hsz hsn W
  rw [hsl] at hM1 hM2
  obtain ⟨y, hy⟩ : ∃ y : ByteArray, (⟨(mixL a (nameA x)).toArray⟩ : ByteArray) = y := ⟨_, rfl⟩
  obtain ⟨z, hz⟩ : ∃ z : ByteArray, (⟨(mixL b (nameA x)).toArray⟩ : ByteArray) = z := ⟨_, rfl⟩
  have hyl : y.data.toList = mixL a (nameA x) := by rw [← hy]
  have hzl : z.data.toList = mixL b (nameA x) := by rw [← hz]
  have hysz : y.size ≤ maxLen := by rw [← hy]; have := mixL_length a (nameA x); simp only [ByteArray.size, List.size_toArray, this]; unfold maxLen; omega
  rw [hy] at hM1
  rw [hz] at hM2
  have hO := fun W (h : PowTab W) => ofA_any x hx y hysz (by rw [hyl]; exact mix_name hnn) (namL (mixL a (nameA x))) (by rw [hyl]) mixA_len mixA_take (by rw [hyl]; exact mixA_same) W h
  have hL := fun W => letters_any s hsz W
  rw [hsl, nameA_letters] at hL
  have hE := fun W => Exact_any y z hysz W
  have e7 : ((y.toList == z.toList) && isName y.data.toList) = (a % 1024 == b % 1024) := by
    rw [← hy, ← hz, toList_mk, toList_mk, mix_same hnn, nameA_letters, mask10, mask10]
    rw [show isName (⟨(mixL a (nameA x)).toArray⟩ : ByteArray).data.toList = true from mix_name hnn, Bool.and_true]
  rw [e7] at hE
  have hZ := fun (k : Nat) (hk : k ≤ 4) W (h : PowTab W) => zone_any x hx k hk W h
  have hW := fun (k : Nat) (hk : k ≤ 4) W => Within_any y ⟨(zoneA x k).1.toArray⟩ hysz (by rw [zoneA_eq]; have := (joinA (drop_ok x (4 - k)) (by rw [List.length_drop, labsA_length]; omega)).2; simp only [ByteArray.size, List.size_toArray]; unfold maxLen; omega) W
  have hZ2 : ∀ k, k ≤ 4 → (zoneA x k).2 = 0 := fun k _ => by rw [zoneA_eq]
  have hW2 : ∀ k, k ≤ 4 → withinB y.data.toList (zoneA x k).1 = true := fun k hk => by rw [hyl]; exact mixA_within k hk
  have HR := Lib.hid hR
  have HM := Lib.hid (And.intro hM1 hM2)
  have HO := Lib.hid hO
  have HL := Lib.hid hL
  have HE := Lib.hid hE
  have HZ := Lib.hid hZ
  have HW := Lib.hid hW
  have HZ2 := Lib.hid (And.intro hZ2 hW2)
  have HT := Lib.hid htab
  clear hR hM1 hM2 hO hL hE hZ hW hZ2 hW2 htab e7 hysz hyl hzl hy hz hsn hsz hsl hs hnn hnl
  go_enter Tryd.func3, Tryd.ntmps3
  go_wp2_with (fail)
  refine (begins_any _).mono ?_
  rintro e w1 ⟨rfl, hb1⟩
  have B1 := Lib.hid hb1
  clear hb1
  go_wp2_with (fail)
  refine (HR.out _ (pow_below HT.out B1.out)).mono ?_
  rintro e w2 ⟨rfl, hb2⟩
  have B2 := Lib.hid (B1.out.trans (hb2.mono B1.out.size))
  clear hb2
  go_wp2_with (fail)
  refine (HM.out.1 _).mono ?_
  rintro e w3 ⟨rfl, hb3⟩
  have B3 := Lib.hid (B2.out.trans (hb3.mono B2.out.size))
  clear hb3
  go_wp2_with (fail)
  refine (HM.out.2 _).mono ?_
  rintro e w4 ⟨rfl, hb4⟩
  have B4 := Lib.hid (B3.out.trans (hb4.mono B3.out.size))
  clear hb4
  go_wp2_with (fail)
  refine (HO.out _ (pow_below HT.out B4.out)).mono ?_
  rintro e w5 ⟨rfl, hb5⟩
  have B5 := Lib.hid (B4.out.trans (hb5.mono B4.out.size))
  clear hb5
  go_wp2_with (fail)
  go_loopg [14] 6 (fun g v14 wr => ∃ k : Nat, g + k = 6 ∧ k ≤ 5 ∧ v14 = .int .i64 ((8 * k : Nat) : Int) ∧ Aside (Below w.heap.size w wr))
  case atStart => exact ⟨0, by omega, by omega, rfl, B5.out⟩
  case round =>
    obtain ⟨k, hk, hk5, rfl, hB⟩ := hrel
    by_cases hlt : k ≤ 4
    · have HZk := Lib.hid (HZ.out k hlt wr (pow_below HT.out hB.out))
      have HWk := Lib.hid (HW.out k hlt)
      have e1 := HZ2.out.1 k hlt
      have e2 := HZ2.out.2 k hlt
      rw [e1] at HZk
      rw [e2] at HWk
      obtain ⟨q, hq⟩ : ∃ q : Nat, 8 * k = q := ⟨_, rfl⟩
      rw [hq] at HZk ⊢
      have hqI : (q : Int) ≤ 32 := by omega
      have HQ := Lib.hid (And.intro hq (And.intro hlt hk))
      clear e1 e2 hq hlt hk hk5
      go_wp2_with (fail)
      refine HZk.out.mono ?_
      rintro e w6 ⟨rfl, hb6⟩
      have B6 := Lib.hid (hB.out.trans (hb6.mono hB.out.size))
      clear hb6
      go_wp2_with (fail)
      refine (HWk.out w6).mono ?_
      rintro e w7 ⟨rfl, hb7⟩
      have B7 := Lib.hid (B6.out.trans (hb7.mono B6.out.size))
      clear hb7
      go_wp2_with (fail)
      go_roundg (6 - (k + 1))
      case measure => have := HQ.out; omega
      case rel =>
        have := HQ.out
        exact ⟨k + 1, by omega, by omega, by congr 1; omega, B7.out⟩
    · have hlI : ¬ ((8 * k : Nat) : Int) ≤ 32 := by omega
      obtain ⟨q, hq⟩ : ∃ q : Nat, 8 * k = q := ⟨_, rfl⟩
      rw [hq] at hlI ⊢
      clear hq
      go_wp2_with (fail)
      refine (HL.out _).mono ?_
      rintro e w6 ⟨rfl, hb6⟩
      have B6 := Lib.hid (hB.out.trans (hb6.mono hB.out.size))
      clear hb6
      go_wp2_with (fail)
      refine (HE.out _).mono ?_
      rintro e w7 ⟨rfl, hb7⟩
      have B7 := Lib.hid (B6.out.trans (hb7.mono B6.out.size))
      clear hb7
      go_wp2_with (fail)
      go_ret
      exact ⟨ret_b (mod_beq a b), B7.out⟩
end Go.Proofs.YtenmhfhnhfhooaaDoor
