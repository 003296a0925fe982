/- AskApart, where the sum is not 0; the law. -/
import Derived.Test.YtcphcgkbjlgkiaaAskApartZ
namespace Go.Proofs.Ytcphcgkbjlgkiaa
open Go.RowKit Go.Lib

set_option maxRecDepth 100000 in
set_option maxHeartbeats 8000000 in
theorem askApart_Y (i : Bool) (xs : List Entry) (A : Option Addr) (m : Nat) (k : ByteArray) (a b : Nat) (w : World) (hT : Tab w A xs) (hx : xs.length ≤ 60) (hap : Ap xs) (ha : a < 4294967296)
    (X Y : ByteArray) (E n : Int) (kn : Bool) (T : ByteArray)
    (hC1 : ∀ W, Tab W A xs → Calls Try.prog 22 #[.agg #[.bool true, .slice A xs.length m], .string k, .int .u32 (a : Int)] W fun e w' => e = .returned (.tuple #[.string X, .int .i64 E]) ∧ Below W.heap.size W w')
    (hC2 : ∀ W, Tab W A xs → Calls Try.prog 22 #[.agg #[.bool true, .slice A xs.length m], .string k, .int .u32 (b : Int)] W fun e w' => e = .returned (.tuple #[.string Y, .int .i64 E]) ∧ Below W.heap.size W w')
    (hV : E = 0 → ∀ W, Calls Try.prog 31 #[.string X] W fun e w' => e = .returned (.tuple #[.int .u64 n, .int .i64 0]) ∧ W = w')
    (hTx : ∀ W, Calls Try.prog 26 #[.int .u32 (a : Int)] W fun e w' => e = .returned (.string T) ∧ Below W.heap.size W w')
    (hKn : ∀ W, Tab W A xs → Calls Try.prog 18 #[.agg #[.bool true, .slice A xs.length m], .string k, .string T] W fun e w' => e = .returned (.bool kn) ∧ Below W.heap.size W w')
    (h0 : E = 0) (h1 : (n == 0) = false) (h2 : (n != 0) = true) (hkn : kn = true) (h3 : (X.toList == Y.toList) = ((a : Int) == (b : Int))) :
    Calls Try.prog 6 #[.agg #[.bool i, .slice A xs.length m], .string k, .int .u32 (a : Int), .int .u32 (b : Int)] w fun e w' => e = .returned (.bool true) ∧ Below w.heap.size w w' := by
  have hbig : xs.length ≤ 9223372036854775807 := by omega
  have S0 := Lib.hid (SJ.start w i A xs.length m)
  have HT := Lib.hid hT
  have hS := fun W => small_any i xs A m W hbig
  simp only [if_neg (show ¬ 60 < xs.length by omega)] at hS
  have HS := Lib.hid hS
  have HA := Lib.hid (fun W hT => apart_is (v := true) (.inl ⟨rfl, hap⟩) i A m W hT hbig)
  have hai : (a : Int) ≤ 4294967295 := by omega
  have HC1 := Lib.hid hC1
  have HC2 := Lib.hid hC2
  have HTx := Lib.hid hTx
  have HKn := Lib.hid hKn
  clear hS hap hT hx hbig ha hC1 hC2 hTx hKn
  subst h0 hkn
  · have HV := Lib.hid (hV rfl)
    clear hV
    generalize hq : ((a : Int) == (b : Int)) = q at h3
    have h3' : (X.toList == Y.toList) = q := h3
    clear h3
    cases q
    all_goals
      go_enter Try.func6, Try.ntmps6
      go_wp2_with (fail)
      with_reducible refine (lives11 _).mono ?_
      rintro e w1 ⟨rfl, hb⟩
      have S1 := Lib.hid ((S0.out).next hb)
      have c0 : w1.cell? ⟨w.heap.size, 0, none⟩ = some (.bool i) := S1.out.1.cell 0
      have c1 : w1.cell? ⟨w.heap.size, 1, none⟩ = some (.slice A xs.length m) := S1.out.1.cell 1
      clear hb
      go_wp2_with (fail)
      with_reducible refine (HS.out _).mono ?_
      rintro e w2 ⟨rfl, hb⟩
      have S2 := Lib.hid ((S1.out).next hb)
      clear c0 c1
      have c0 : w2.cell? ⟨w.heap.size, 0, none⟩ = some (.bool i) := S2.out.1.cell 0
      have c1 : w2.cell? ⟨w.heap.size, 1, none⟩ = some (.slice A xs.length m) := S2.out.1.cell 1
      clear hb
      go_wp2_with (fail)
      with_reducible refine (HA.out _ (HT.out.below S2.out.low)).mono ?_
      rintro e w3 ⟨rfl, hb⟩
      have S3 := Lib.hid ((S2.out).next hb)
      clear c0 c1
      have c0 : w3.cell? ⟨w.heap.size, 0, none⟩ = some (.bool i) := S3.out.1.cell 0
      have c1 : w3.cell? ⟨w.heap.size, 1, none⟩ = some (.slice A xs.length m) := S3.out.1.cell 1
      clear hb
      have f0 := S3.out.1.frozen 0
      go_wp2_with (fail)
      have T3 := Lib.hid S3.out.ideal
      with_reducible refine (HC1.out _ (HT.out.below T3.out.low)).mono ?_
      rintro e w4 ⟨rfl, hb⟩
      have S4 := Lib.hid (T3.out.next hb)
      clear c0 c1 f0
      have c0 : w4.cell? ⟨w.heap.size, 0, none⟩ = some (.bool true) := S4.out.1.cell 0
      have c1 : w4.cell? ⟨w.heap.size, 1, none⟩ = some (.slice A xs.length m) := S4.out.1.cell 1
      clear hb
      go_wp2_with (fail)
      with_reducible refine (HC2.out _ (HT.out.below S4.out.low)).mono ?_
      rintro e w5 ⟨rfl, hb⟩
      have S5 := Lib.hid ((S4.out).next hb)
      clear c0 c1
      have c0 : w5.cell? ⟨w.heap.size, 0, none⟩ = some (.bool true) := S5.out.1.cell 0
      have c1 : w5.cell? ⟨w.heap.size, 1, none⟩ = some (.slice A xs.length m) := S5.out.1.cell 1
      clear hb
      go_wp2_with (fail)
      with_reducible refine (HV.out _).mono ?_
      rintro e w6 ⟨rfl, rfl⟩
      go_wp2_with (fail)
      have hs0 : w.heap.size < w5.heap.size := S5.out.1.lt
      have hrefl : Below w5.heap.size w5 w5 := Below.refl _ _
      have JK := Lib.hid (fun (W : World) (h : Below w5.heap.size w5 W) => HKn.out W ((HT.out.below S5.out.low).below h))
      go_region_held3 (fun w' => w'.cell? ⟨w.heap.size, 0, none⟩ = some (.bool true) ∧ w'.cell? ⟨w.heap.size, 1, none⟩ = some (.slice A xs.length m) ∧ w5.heap.size ≤ w'.heap.size ∧ Below w5.heap.size w5 w')
        (first | assumption | exact ⟨c0, c1, Nat.le_refl _, hrefl⟩ | exact keep2D (by assumption) | exact keep2D ⟨c0, c1, Nat.le_refl _, hrefl⟩ | exact keep2C hs0 (by assumption) hb | exact keep2C hs0 (keep2D (by assumption)) hb | exact keep2C hs0 (keep2D ⟨c0, c1, Nat.le_refl _, hrefl⟩) hb | exact keep2C hs0 ⟨c0, c1, Nat.le_refl _, hrefl⟩ hb)
        (first
          | (go_at_call 26; refine (HTx.out _).mono ?_; rintro e w' ⟨rfl, hb⟩; have hbs := hb.size)
          | (go_at_call 18; refine (JK.out _ (last4 (by assumption))).mono ?_; rintro e w' ⟨rfl, hb⟩; have hbs := hb.size))
      have hbf : Below w5.heap.size w5 w' := last4 (by assumption)
      have HBF := Lib.hid (S5.out.low.trans (hbf.mono S5.out.low.size))
      clear hbf c0 c1
      go_wp2_with (fail)
      go_ret
      exact ⟨rfl, HBF.out⟩

theorem askApart_law (w : World) (i : Bool) (A : Option Addr) (xs : List Entry) (m : Nat) (k : ByteArray) (a b : Int) (hT : Tab w A xs) (_hl : xs.length ≤ m) (hm : m ≤ maxLen) (hk : k.size ≤ maxLen) (ha : 0 ≤ a ∧ a ≤ 4294967295) (hb : 0 ≤ b ∧ b ≤ 4294967295) :
    Calls Try.prog 6 #[.agg #[.bool i, .slice A xs.length m], .string k, .int .u32 a, .int .u32 b] w fun e w' => e = .returned (.bool true) ∧ Below w.heap.size w w' := by
  obtain ⟨a, rfl⟩ := Int.eq_ofNat_of_zero_le ha.1
  obtain ⟨b, rfl⟩ := Int.eq_ofNat_of_zero_le hb.1
  have ha' : a < 4294967296 := by omega
  have hb' : b < 4294967296 := by omega
  have hbig : xs.length ≤ 9223372036854775807 := by unfold maxLen at hm; omega
  have hkb : k.size ≤ 9223372036854775807 := by unfold maxLen at hk; omega
  by_cases h1 : 60 < xs.length
  · exact askApart_out i xs A m k a b w hT hbig (.inl h1)
  by_cases hap : Ap xs
  · have hC1 := fun W hT => Client_any true xs A m k a ha' hkb W hT hbig
    have hC2 := fun W hT => Client_any true xs A m k b hb' hkb W hT hbig
    rw [clE_same k b a] at hC2
    have hX1 : clE k a ≠ 0 → (⟨(clL true xs k a).toArray⟩ : ByteArray) = ⟨#[]⟩ := fun hE => by unfold clL; rw [if_neg hE]
    have hX2 : clE k a ≠ 0 → (⟨(clL true xs k b).toArray⟩ : ByteArray) = ⟨#[]⟩ := fun hE => by unfold clL; rw [if_neg (by rw [clE_same k b a]; exact hE)]
    have hT1 := fun W => aText_any a ha' W
    have hK1 := fun W hT => known_any true xs A m k (atext a) W hT hbig
    by_cases hE : clE k a = 0
    · obtain ⟨hs, hc⟩ := ap_sum hap hT.1 ha' hb' hE ((clE_same k b a).trans hE)
      by_cases h0 : clN true xs k a = 0
      · exact askApart_Z i xs A m k a b w hT (by omega) hap ha' _ _ _ _ _ _ hC1 hC2 (fun hE W => clV hT.1 hE W) hT1 hK1 hE h0 (by rw [← hs, h0]; rfl)
      · refine askApart_Y i xs A m k a b w hT (by omega) hap ha' _ _ _ _ _ _ hC1 hC2 (fun hE W => clV hT.1 hE W) hT1 hK1 hE (by simpa using h0) (by simpa using h0) (by rw [← hs]; simpa using h0) ?_
        rcases hc with h | h | ⟨h, h2⟩
        · exact absurd h h0
        · subst h
          simp
        · rw [ByteArray.toList_eq, ByteArray.toList_eq]
          show (clL true xs k a == clL true xs k b) = _
          rw [h2]
          symm
          rw [beq_eq_false_iff_ne]
          omega
    · exact askApart_N i xs A m k a b w hT (by omega) hap ha' _ _ _ 0 _ _ hC1 hC2 (fun h => absurd h hE) hT1 hK1 hE (hX1 hE) (hX2 hE)
  · exact askApart_out i xs A m k a b w hT hbig (.inr ⟨by omega, hap⟩)
end Go.Proofs.Ytcphcgkbjlgkiaa
