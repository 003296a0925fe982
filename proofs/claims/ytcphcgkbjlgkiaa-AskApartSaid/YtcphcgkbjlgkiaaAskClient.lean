/- The walk of hardtackref11's Four; the bytes of a sum by the reference. The walks of ask.Text and of hardtackref11's Text. The walks of ask.Client and of hardtackref11's Client. -/
import Derived.Test.YtcphcgkbjlgkiaaGive
import Derived.Laws.BitsAllLaws
import Derived.Test.YtcphcgkbjlgkiaaRef11A
import Derived.Deep.RegionHeld3
namespace Go.Proofs.Ytcphcgkbjlgkiaa
section
open Go.RowKit

theorem big_div (n : Nat) (h : n < 4294967296) : ((n : Int) / 16777216 = ((bigI n 4).toNat : Int)) ∧ ((n : Int) / 65536 % 256 = ((bigI n 5).toNat : Int)) ∧ ((n : Int) / 256 % 256 = ((bigI n 6).toNat : Int)) ∧ ((n : Int) % 256 = ((bigI n 7).toNat : Int)) := by
  simp only [bigI_toNat, Nat.reduceSub, Nat.reducePow]
  omega
set_option maxRecDepth 100000 in
set_option maxHeartbeats 1000000 in
theorem four_any (n : Nat) (hn : n < 4294967296) (w : World) : Calls Try.prog 56 #[.int .u32 (n : Int)] w fun e w' => e = .returned (.string ⟨(bigB n 4).toArray⟩) ∧ Below w.heap.size w w' := by
  have hni : (n : Int) ≤ 4294967295 := by omega
  have hcv : (convert 79 9 (.slice (some ⟨w.heap.size, 0, none⟩) 4 4)).run Try.prog (w.alloc (.cells #[.int .u8 ((n : Int) / 16777216), .int .u8 ((n : Int) / 65536 % 256), .int .u8 ((n : Int) / 256 % 256), .int .u8 ((n : Int) % 256)] 5)) = .ok (.string ⟨(bigB n 4).toArray⟩) (w.alloc (.cells #[.int .u8 ((n : Int) / 16777216), .int .u8 ((n : Int) / 65536 % 256), .int .u8 ((n : Int) / 256 % 256), .int .u8 ((n : Int) % 256)] 5)) := by
    obtain ⟨d1, d2, d3, d4⟩ := big_div n hn
    rw [d1, d2, d3, d4]
    refine run_convert_bytes_back (P := Try.prog) _ 79 9 5 ⟨w.heap.size, 0, none⟩ 4 (bigB n 4) Try.underlying79 Try.underlying5 Try.underlying9 (fun j hj => ?_)
    have ea : (⟨w.heap.size, 0, none⟩ : Addr).add j = ⟨w.heap.size, j, none⟩ := by unfold Addr.add; split <;> simp_all
    rw [ea, (Blk.new w 5 _).cell j]
    have hj4 : j < 4 := hj
    match j, hj4 with
    | 0, _ => rfl
    | 1, _ => rfl
    | 2, _ => rfl
    | 3, _ => rfl
  clear hn
  go_enter Try.func56, Try.ntmps56
  go_wp2_with (fail)
  go_ret
  exact ⟨rfl, (Below.refl _ _).alloc (Nat.le_refl _) _⟩

theorem mk_app (a b : List UInt8) : (⟨a.toArray⟩ : ByteArray) ++ ⟨b.toArray⟩ = ⟨(a ++ b).toArray⟩ := ByteArray.mk_append_mk ..
theorem str_app (a : ByteArray) (b : List UInt8) : a ++ (⟨b.toArray⟩ : ByteArray) = ⟨(a.data.toList ++ b).toArray⟩ := by rw [← mk_app]
theorem str_app2 (a b : ByteArray) : a ++ b = ⟨(a.data.toList ++ b.data.toList).toArray⟩ := by rw [← mk_app]

theorem rbytes_int (n : Int) (h : 0 ≤ n ∧ n ≤ 18446744073709551615) (w : World) : Calls Try.prog 50 #[.int .u64 n] w fun e w' => e = .returned (.string ⟨(bytesL n.toNat 8).toArray⟩) ∧ Below w.heap.size w w' := by
  have := rbytes_any n.toNat (by omega) w
  rw [Int.toNat_of_nonneg h.1] at this
  exact this
end
end Go.Proofs.Ytcphcgkbjlgkiaa

namespace Go.Proofs.Ytcphcgkbjlgkiaa
open Go.RowKit

def aW : ByteArray := ⟨#[97, 115, 107]⟩
/-- The text that a client's sum is of. -/
def atext (a : Nat) : ByteArray := ⟨(aW.data.toList ++ bigB a 4).toArray⟩
theorem atext_size (a : Nat) : (atext a).size = 7 := by
  show (aW.data.toList ++ bigB a 4).toArray.size = _
  rw [List.size_toArray]
  simp [bigB_length, aW]

set_option maxRecDepth 100000 in
set_option maxHeartbeats 1000000 in
theorem aText_any (a : Nat) (ha : a < 4294967296) (w : World) :
    Calls Try.prog 26 #[.int .u32 (a : Int)] w fun e w' => e = .returned (.string (atext a)) ∧ Below w.heap.size w w' := by
  have hai : (a : Int) ≤ 4294967295 := by omega
  have HS := Lib.hid ha
  clear ha
  go_enter Try.func26, Try.ntmps26
  go_wp2_with (fail)
  refine (wNew_any _ _).mono ?_
  rintro e w1 ⟨rfl, hW, hb⟩
  have H1 := Lib.hid (raw_fits aW hW (by show (0 : Int) + 3 ≤ _; omega) (by omega))
  have HB := Lib.hid hb
  clear hW hb
  go_wp2_with (fail)
  refine H1.out.mono ?_
  rintro e w2 ⟨rfl, hW, hk⟩
  have HB2 := Lib.hid (HB.out.trans (hk.below (fun i hi => hi)))
  have hs := HS.out
  have H4 := Lib.hid (num_fits 4 (by omega) a (by omega) hW (by show (3 : Int) + 4 ≤ _; omega) (by omega))
  clear hW hk hs H1 HB
  go_wp2_with (fail)
  refine H4.out.mono ?_
  rintro e w5 ⟨rfl, hW, hk⟩
  have HB5 := Lib.hid (HB2.out.trans (hk.below (fun i hi => hi)))
  have H5 := Lib.hid (wOut_any hW)
  clear hW hk H4 HB2
  go_wp2_with (fail)
  refine H5.out.mono ?_
  rintro e w6 ⟨rfl, rfl⟩
  go_wp2_with (fail)
  go_ret
  exact ⟨rfl, HB5.out⟩

set_option maxRecDepth 100000 in
theorem raText_any (a : Nat) (ha : a < 4294967296) (w : World) :
    Calls Try.prog 27 #[.int .u32 (a : Int)] w fun e w' => e = .returned (.string (atext a)) ∧ Below w.heap.size w w' := by
  have HF := Lib.hid (fun W => four_any a ha W)
  have h3 : (aW.size : Int) = 3 := rfl
  have h4 : ((⟨(bigB a 4).toArray⟩ : ByteArray).size : Int) = 4 := by show (((bigB a 4).toArray.size : Nat) : Int) = 4; rw [List.size_toArray, bigB_length]; rfl
  have HG : Hid (aW ++ (⟨(bigB a 4).toArray⟩ : ByteArray) = atext a) := Lib.hid (by
    apply ByteArray.ext
    apply Array.toList_inj.1
    simp [atext, aW])
  clear ha
  go_enter Try.func27, Try.ntmps27
  go_wp2_with (fail)
  refine (HF.out _).mono ?_
  rintro e w1 ⟨rfl, hb⟩
  go_wp2_with (fail)
  go_ret
  refine ⟨?_, hb⟩
  rw [← HG.out]; rfl
end Go.Proofs.Ytcphcgkbjlgkiaa

namespace Go.Proofs.Ytcphcgkbjlgkiaa
open Go.RowKit

/-- Why there is no cookie for a server; the sum; the cookie. -/
def clE (k : ByteArray) (a : Nat) : Int := sumE k.data.toList (atext a).data.toList
def clN (i : Bool) (xs : List Entry) (k : ByteArray) (a : Nat) : Int := ofN i xs k (atext a)
def clL (i : Bool) (xs : List Entry) (k : ByteArray) (a : Nat) : List UInt8 := if clE k a = 0 then bytesL (clN i xs k a).toNat 8 else []

set_option maxRecDepth 100000 in
set_option maxHeartbeats 2000000 in
theorem Client_any (i : Bool) (xs : List Entry) (A : Option Addr) (n : Nat) (k : ByteArray) (a : Nat) (ha : a < 4294967296) (hk : k.size ≤ 9223372036854775807) (w : World) (hT : Tab w A xs) (hbig : xs.length ≤ 9223372036854775807) :
    Calls Try.prog 22 #[.agg #[.bool i, .slice A xs.length n], .string k, .int .u32 (a : Int)] w fun e w' => e = .returned (.tuple #[.string ⟨(clL i xs k a).toArray⟩, .int .i64 (clE k a)]) ∧ Below w.heap.size w w' := by
  have hai : (a : Int) ≤ 4294967295 := by omega
  have hB0 : Blk (w.alloc (.cells #[.bool i, .slice A xs.length n] 27)) w.heap.size 27 #[.bool i, .slice A xs.length n] := Blk.new w _ _
  have hb0 : Below w.heap.size w (w.alloc (.cells #[.bool i, .slice A xs.length n] 27)) := (Below.refl _ _).alloc (Nat.le_refl _) _
  have hT0 := hT.below hb0
  have HText := Lib.hid (fun W => aText_any a ha W)
  have hbd := ofN_bd (i := i) (k := k) (s := atext a) hT.1
  have HOf := Lib.hid (fun W (hT : Tab W A xs) => of_hash i xs A n k (atext a) W hT hbig hk (by rw [atext_size]; omega))
  have hE : clE k a = sumE k.data.toList (atext a).data.toList := rfl
  have hN : clN i xs k a = ofN i xs k (atext a) := rfl
  have hL : clL i xs k a = if clE k a = 0 then bytesL (clN i xs k a).toNat 8 else [] := rfl
  rw [hL]
  rw [← hE, ← hN] at HOf
  rw [← hN] at hbd
  generalize clE k a = y at HOf ⊢
  generalize clN i xs k a = z at HOf hbd ⊢
  have HBy := Lib.hid (fun W => bytes_int z hbd W)
  clear ha hk hT hbig hE hN hL hbd
  go_enter Try.func22, Try.ntmps22
  go_wp2_with (fail)
  generalize hw3 : w.alloc (.cells #[.bool i, .slice A xs.length n] 27) = w3 at hB0 hb0 hT0 ⊢
  clear hw3
  have c0 : w3.cell? ⟨w.heap.size, 0, none⟩ = some (.bool i) := hB0.cell 0
  have c1 : w3.cell? ⟨w.heap.size, 1, none⟩ = some (.slice A xs.length n) := hB0.cell 1
  have hs0 := hB0.lt
  have hrefl : Below w3.heap.size w3 w3 := Below.refl _ _
  have JO := Lib.hid (fun (W : World) (h : Below w3.heap.size w3 W) => HOf.out W (hT0.below h))
  have HBV := Lib.hid hb0
  clear hT0 hB0 HOf hb0
  go_region_held3 (fun w' => w'.cell? ⟨w.heap.size, 0, none⟩ = some (.bool i) ∧ w'.cell? ⟨w.heap.size, 1, none⟩ = some (.slice A xs.length n) ∧ w3.heap.size ≤ w'.heap.size ∧ Below w3.heap.size w3 w')
    (first | assumption | exact ⟨c0, c1, Nat.le_refl _, hrefl⟩ | exact keep2D (by assumption) | exact keep2D ⟨c0, c1, Nat.le_refl _, hrefl⟩ | exact keep2C hs0 (by assumption) hb | exact keep2C hs0 (keep2D (by assumption)) hb | exact keep2C hs0 (keep2D ⟨c0, c1, Nat.le_refl _, hrefl⟩) hb | exact keep2C hs0 ⟨c0, c1, Nat.le_refl _, hrefl⟩ hb)
    (first
      | (go_at_call 26; refine (HText.out _).mono ?_; rintro e w' ⟨rfl, hb⟩; have hbs := hb.size)
      | (go_at_call 17; refine (JO.out _ (last4 (by assumption))).mono ?_; rintro e w' ⟨rfl, hb⟩; have hbs := hb.size))
  have hbf : Below w3.heap.size w3 w' := last4 (by assumption)
  have HBF := Lib.hid (HBV.out.trans (hbf.mono HBV.out.size))
  clear hbf c0 c1
  by_cases hy : y = 0
  · subst hy
    go_wp2_with (fail)
    refine (HBy.out _).mono ?_
    rintro e w4 ⟨rfl, hb4⟩
    have HB4 := Lib.hid (HBF.out.trans (hb4.mono HBF.out.size))
    clear hb4
    go_wp2_with (fail)
    go_ret2
    exact ⟨rfl, HB4.out⟩
  · have hyi : (y != 0) = true := by simpa using hy
    have HY := Lib.hid hy
    clear hy
    go_wp2_with (fail)
    go_ret2
    exact ⟨by first | rfl | (rw [if_neg HY.out]; rfl), HBF.out⟩

set_option maxRecDepth 100000 in
set_option maxHeartbeats 2000000 in
theorem rClient_any (i : Bool) (xs : List Entry) (A : Option Addr) (n : Nat) (k : ByteArray) (a : Nat) (ha : a < 4294967296) (hk : k.size ≤ 9223372036854775807) (w : World) (hT : Tab w A xs) (hbig : xs.length ≤ 9223372036854775807) :
    Calls Try.prog 23 #[.agg #[.bool i, .slice A xs.length n], .string k, .int .u32 (a : Int)] w fun e w' => e = .returned (.tuple #[.string ⟨(clL i xs k a).toArray⟩, .int .i64 (clE k a)]) ∧ Below w.heap.size w w' := by
  have hai : (a : Int) ≤ 4294967295 := by omega
  have hB0 : Blk (w.alloc (.cells #[.bool i, .slice A xs.length n] 27)) w.heap.size 27 #[.bool i, .slice A xs.length n] := Blk.new w _ _
  have hb0 : Below w.heap.size w (w.alloc (.cells #[.bool i, .slice A xs.length n] 27)) := (Below.refl _ _).alloc (Nat.le_refl _) _
  have hT0 := hT.below hb0
  have HText := Lib.hid (fun W => raText_any a ha W)
  have hbd := ofN_bd (i := i) (k := k) (s := atext a) hT.1
  have HOf := Lib.hid (fun W (hT : Tab W A xs) => rof_hash i xs A n k (atext a) W hT hbig hk (by rw [atext_size]; omega))
  have hE : clE k a = sumE k.data.toList (atext a).data.toList := rfl
  have hN : clN i xs k a = ofN i xs k (atext a) := rfl
  have hL : clL i xs k a = if clE k a = 0 then bytesL (clN i xs k a).toNat 8 else [] := rfl
  rw [hL]
  rw [← hE, ← hN] at HOf
  rw [← hN] at hbd
  generalize clE k a = y at HOf ⊢
  generalize clN i xs k a = z at HOf hbd ⊢
  have HBy := Lib.hid (fun W => rbytes_int z hbd W)
  clear ha hk hT hbig hE hN hL hbd
  go_enter Try.func23, Try.ntmps23
  go_wp2_with (fail)
  generalize hw3 : w.alloc (.cells #[.bool i, .slice A xs.length n] 27) = w3 at hB0 hb0 hT0 ⊢
  clear hw3
  have c0 : w3.cell? ⟨w.heap.size, 0, none⟩ = some (.bool i) := hB0.cell 0
  have c1 : w3.cell? ⟨w.heap.size, 1, none⟩ = some (.slice A xs.length n) := hB0.cell 1
  have hs0 := hB0.lt
  have hrefl : Below w3.heap.size w3 w3 := Below.refl _ _
  have JO := Lib.hid (fun (W : World) (h : Below w3.heap.size w3 W) => HOf.out W (hT0.below h))
  have HBV := Lib.hid hb0
  clear hT0 hB0 HOf hb0
  go_region_held3 (fun w' => w'.cell? ⟨w.heap.size, 0, none⟩ = some (.bool i) ∧ w'.cell? ⟨w.heap.size, 1, none⟩ = some (.slice A xs.length n) ∧ w3.heap.size ≤ w'.heap.size ∧ Below w3.heap.size w3 w')
    (first | assumption | exact ⟨c0, c1, Nat.le_refl _, hrefl⟩ | exact keep2D (by assumption) | exact keep2D ⟨c0, c1, Nat.le_refl _, hrefl⟩ | exact keep2C hs0 (by assumption) hb | exact keep2C hs0 (keep2D (by assumption)) hb | exact keep2C hs0 (keep2D ⟨c0, c1, Nat.le_refl _, hrefl⟩) hb | exact keep2C hs0 ⟨c0, c1, Nat.le_refl _, hrefl⟩ hb)
    (first
      | (go_at_call 27; refine (HText.out _).mono ?_; rintro e w' ⟨rfl, hb⟩; have hbs := hb.size)
      | (go_at_call 49; refine (JO.out _ (last4 (by assumption))).mono ?_; rintro e w' ⟨rfl, hb⟩; have hbs := hb.size))
  have hbf : Below w3.heap.size w3 w' := last4 (by assumption)
  have HBF := Lib.hid (HBV.out.trans (hbf.mono HBV.out.size))
  clear hbf c0 c1
  by_cases hy : y = 0
  · subst hy
    go_wp2_with (fail)
    refine (HBy.out _).mono ?_
    rintro e w4 ⟨rfl, hb4⟩
    have HB4 := Lib.hid (HBF.out.trans (hb4.mono HBF.out.size))
    clear hb4
    go_wp2_with (fail)
    go_ret2
    exact ⟨rfl, HB4.out⟩
  · have hyi : (y != 0) = true := by simpa using hy
    have HY := Lib.hid hy
    clear hy
    go_wp2_with (fail)
    go_ret2
    exact ⟨by first | rfl | (rw [if_neg HY.out]; rfl), HBF.out⟩
end Go.Proofs.Ytcphcgkbjlgkiaa
