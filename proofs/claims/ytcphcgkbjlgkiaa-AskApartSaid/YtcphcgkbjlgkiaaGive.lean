/- The walks of package give's Text and cookie. -/
import Derived.Test.YtcphcgkbjlgkiaaWriterF
import Derived.Test.YtcphcgkbjlgkiaaReaderN
import Derived.Test.YtcphcgkbjlgkiaaKeyedChk
import Derived.Test.YtcphcgkbjlgkiaaStamp
import Derived.Test.YtcphcgkbjlgkiaaKeep2
import Derived.Deep.RegionHeld3
namespace Go.Proofs.Ytcphcgkbjlgkiaa
open Go.RowKit

def gW : ByteArray := ⟨#[103, 105, 118, 101]⟩
def gB : ByteArray := ⟨#[1, 0, 0, 0]⟩
/-- The text that a sum is of. -/
def gtextL (c h : List UInt8) (a : Nat) : List UInt8 := gW.data.toList ++ (c ++ (h ++ bigB a 4))
def gtext (c h : List UInt8) (a : Nat) : ByteArray := ⟨(gtextL c h a).toArray⟩
theorem gtext_size (c h : List UInt8) (a : Nat) : (gtext c h a).size = 8 + c.length + h.length := by
  show (gtextL c h a).toArray.size = _
  rw [List.size_toArray]
  simp [gtextL, bigB_length, gW]
  omega

set_option maxRecDepth 100000 in
set_option maxHeartbeats 1000000 in
theorem gText_any (c h : ByteArray) (a : Nat) (ha : a < 4294967296) (hs : c.size + h.size ≤ 140737488353000) (w : World) :
    Calls Try.prog 39 #[.string c, .string h, .int .u32 (a : Int)] w fun e w' => e = .returned (.string (gtext c.data.toList h.data.toList a)) ∧ Below w.heap.size w w' := by
  have hai : (a : Int) ≤ 4294967295 := by omega
  have hc1 : (c.size : Int) ≤ 140737488353000 := by omega
  have hc2 : (h.size : Int) ≤ 140737488353000 := by omega
  have hcl : c.data.toList.length = c.size := by simp
  have hhl : h.data.toList.length = h.size := by simp
  have HS := Lib.hid (And.intro hs (And.intro ha (And.intro hcl hhl)))
  clear hs ha hcl hhl
  go_enter Try.func39, Try.ntmps39
  go_wp2_with (fail)
  refine (wNew_any _ _).mono ?_
  rintro e w1 ⟨rfl, hW, hb⟩
  have hs := HS.out.1
  have H1 := Lib.hid (raw_fits gW hW (by show (0 : Int) + 4 ≤ _; omega) (by omega))
  have HB := Lib.hid hb
  clear hW hb hs
  go_wp2_with (fail)
  refine H1.out.mono ?_
  rintro e w2 ⟨rfl, hW, hk⟩
  have HB2 := Lib.hid (HB.out.trans (hk.below (fun i hi => hi)))
  have hs := HS.out
  have H2 := Lib.hid (raw_fits c hW (by show (4 : Int) + _ ≤ _; omega) (by omega))
  clear hW hk hs H1 HB
  go_wp2_with (fail)
  refine H2.out.mono ?_
  rintro e w3 ⟨rfl, hW, hk⟩
  have HB3 := Lib.hid (HB2.out.trans (hk.below (fun i hi => hi)))
  have hs := HS.out
  have H3 := Lib.hid (raw_fits h hW (by rw [List.length_append, hs.2.2.1]; show ((4 + c.size : Nat) : Int) + _ ≤ _; omega) (by omega))
  clear hW hk hs H2 HB2
  go_wp2_with (fail)
  refine H3.out.mono ?_
  rintro e w4 ⟨rfl, hW, hk⟩
  have HB4 := Lib.hid (HB3.out.trans (hk.below (fun i hi => hi)))
  have hs := HS.out
  have H4 := Lib.hid (num_fits 4 (by omega) a (by omega) hW (by rw [List.length_append, List.length_append, hs.2.2.1, hs.2.2.2]; show ((4 + c.size + h.size : Nat) : Int) + 4 ≤ _; omega) (by omega))
  clear hW hk hs H3 HB3
  go_wp2_with (fail)
  refine H4.out.mono ?_
  rintro e w5 ⟨rfl, hW, hk⟩
  have HB5 := Lib.hid (HB4.out.trans (hk.below (fun i hi => hi)))
  have H5 := Lib.hid (wOut_any hW)
  clear hW hk H4 HB4
  go_wp2_with (fail)
  refine H5.out.mono ?_
  rintro e w6 ⟨rfl, rfl⟩
  go_wp2_with (fail)
  go_ret
  exact ⟨rfl, HB5.out⟩

/-- A cookie's head. -/
def headL (at' : Nat) : List UInt8 := gB.data.toList ++ bigB at' 4
theorem headL_length (at' : Nat) : (headL at').length = 8 := by simp [headL, bigB_length, gB]
/-- Why there is no cookie; the cookie. -/
def cookE (k : ByteArray) (c : List UInt8) (a at' : Nat) : Int := sumE k.data.toList (gtext c (headL at') a).data.toList
def cookN (i : Bool) (xs : List Entry) (k : ByteArray) (c : List UInt8) (a at' : Nat) : Int := ofN i xs k (gtext c (headL at') a)
def cookL (i : Bool) (xs : List Entry) (k : ByteArray) (c : List UInt8) (a at' : Nat) : List UInt8 := if cookE k c a at' = 0 then headL at' ++ bytesL (cookN i xs k c a at').toNat 8 else []
theorem ofN_bd {i : Bool} {xs : List Entry} {k s : ByteArray} (h : ∀ e ∈ xs, e.ok) : 0 ≤ ofN i xs k s ∧ ofN i xs k s ≤ 18446744073709551615 := by
  unfold ofN
  split
  · rcases idxOf_cases (Entry.is k s) xs with ⟨_, h2, _⟩ | ⟨j, e, _, h2, h3, _, _⟩
    · rw [h2]; omega
    · rw [h3]; exact ⟨(h e (List.mem_of_getElem? h2)).2.2.1, (h e (List.mem_of_getElem? h2)).2.2.2⟩
  · unfold sumN
    split
    · have := U_bd (sumB k.data.toList s.data.toList); omega
    · omega
theorem bytes_int (n : Int) (h : 0 ≤ n ∧ n ≤ 18446744073709551615) (w : World) : Calls Try.prog 13 #[.int .u64 n] w fun e w' => e = .returned (.string ⟨(bytesL n.toNat 8).toArray⟩) ∧ Below w.heap.size w w' := by
  have := bytes_any n.toNat (by omega) w
  rw [Int.toNat_of_nonneg h.1] at this
  exact this

set_option maxRecDepth 100000 in
set_option maxHeartbeats 2000000 in
theorem cookie_any (i : Bool) (xs : List Entry) (A : Option Addr) (n : Nat) (k c : ByteArray) (a at' : Nat) (ha : a < 4294967296) (hat : at' < 4294967296) (hk : k.size ≤ 9223372036854775807) (hc : c.size ≤ 1000) (w : World) (hT : Tab w A xs) (hbig : xs.length ≤ 9223372036854775807) :
    Calls Try.prog 62 #[.agg #[.bool i, .slice A xs.length n], .string k, .string c, .int .u32 (a : Int), .int .u32 (at' : Int)] w fun e w' => e = .returned (.tuple #[.string ⟨(cookL i xs k c.data.toList a at').toArray⟩, .int .i64 (cookE k c.data.toList a at')]) ∧ Below w.heap.size w w' := by
  have hai : (a : Int) ≤ 4294967295 := by omega
  have hati : (at' : Int) ≤ 4294967295 := by omega
  have hB0 : Blk (w.alloc (.cells #[.bool i, .slice A xs.length n] 27)) w.heap.size 27 #[.bool i, .slice A xs.length n] := Blk.new w _ _
  have hb0 : Below w.heap.size w (w.alloc (.cells #[.bool i, .slice A xs.length n] 27)) := (Below.refl _ _).alloc (Nat.le_refl _) _
  have H0 := Lib.hid (And.intro hB0 (And.intro hb0 (hT.below hb0)))
  have HS := Lib.hid (And.intro ha (And.intro hat hc))
  have hh : (⟨(headL at').toArray⟩ : ByteArray).size = 8 := by show (headL at').toArray.size = 8; rw [List.size_toArray, headL_length]
  have HText := Lib.hid (fun W => gText_any c ⟨(headL at').toArray⟩ a ha (by rw [hh]; omega) W)
  have hbd := ofN_bd (i := i) (k := k) (s := gtext c.data.toList (headL at') a) hT.1
  have HOf := Lib.hid (fun W (hT : Tab W A xs) => of_hash i xs A n k (gtext c.data.toList (headL at') a) W hT hbig hk (by rw [gtext_size, headL_length]; simp; omega))
  have hE : cookE k c.data.toList a at' = sumE k.data.toList (gtext c.data.toList (headL at') a).data.toList := rfl
  have hN : cookN i xs k c.data.toList a at' = ofN i xs k (gtext c.data.toList (headL at') a) := rfl
  have hL : cookL i xs k c.data.toList a at' = if cookE k c.data.toList a at' = 0 then headL at' ++ bytesL (cookN i xs k c.data.toList a at').toNat 8 else [] := rfl
  rw [hL]
  rw [← hE, ← hN] at HOf
  rw [← hN] at hbd
  have hHL : headL at' = gB.data.toList ++ bigB at' 4 := rfl
  generalize cookE k c.data.toList a at' = y at HOf ⊢
  generalize cookN i xs k c.data.toList a at' = z at HOf hbd ⊢
  have HBy := Lib.hid (fun W => bytes_int z hbd W)
  have HHL := Lib.hid hHL
  have hsz0 : (w.alloc (.cells #[.bool i, .slice A xs.length n] 27)).heap.size = w.heap.size + 1 := World.size_alloc ..
  have HZ := Lib.hid hsz0
  clear ha hat hk hc hT hbig hB0 hb0 hE hN hL hHL hh hbd hsz0
  go_enter Try.func62, Try.ntmps62
  go_wp2_with (fail)
  refine (wNew_any _ _).mono ?_
  rintro e w1 ⟨rfl, hW, hb⟩
  rw [HZ.out] at hW hb
  have H1 := Lib.hid (raw_fits gB hW (by show (0 : Int) + 4 ≤ _; omega) (by omega))
  have HB := Lib.hid hb
  clear hW hb
  go_wp2_with (fail)
  refine H1.out.mono ?_
  rintro e w2 ⟨rfl, hW, hk⟩
  have HB2 := Lib.hid (HB.out.trans (hk.below (fun i hi => hi)))
  have H2 := Lib.hid (num_fits 4 (by omega) at' (by have := HS.out; omega) hW (by show (4 : Int) + 4 ≤ _; omega) (by omega))
  clear hW hk H1 HB
  go_wp2_with (fail)
  refine H2.out.mono ?_
  rintro e w3 ⟨rfl, hW, hk⟩
  have hb3 := HB2.out.trans (hk.below (fun i hi => hi))
  have HB3 := Lib.hid hb3
  have H3 := Lib.hid (wOut_any hW)
  clear hW hk H2 HB2 hb3
  go_wp2_with (fail)
  refine H3.out.mono ?_
  rintro e V ⟨rfl, rfl⟩
  go_wp2_with (fail)
  rw [← HHL.out]
  have hb3 := HB3.out
  rw [← HZ.out] at hb3
  have hT3 := H0.out.2.2.below hb3
  have hB3 := H0.out.1.below hb3 (by rw [HZ.out]; omega)
  have c0 : w3.cell? ⟨w.heap.size, 0, none⟩ = some (.bool i) := hB3.cell 0
  have c1 : w3.cell? ⟨w.heap.size, 1, none⟩ = some (.slice A xs.length n) := hB3.cell 1
  have hs0 := hB3.lt
  have hrefl : Below w3.heap.size w3 w3 := Below.refl _ _
  have JO := Lib.hid (fun (W : World) (h : Below w3.heap.size w3 W) => HOf.out W (hT3.below h))
  have HBV := Lib.hid (H0.out.2.1.trans (hb3.mono H0.out.2.1.size))
  clear hT3 hB3 HOf H0 HB3 H3 hb3
  go_region_held3 (fun w' => w'.cell? ⟨w.heap.size, 0, none⟩ = some (.bool i) ∧ w'.cell? ⟨w.heap.size, 1, none⟩ = some (.slice A xs.length n) ∧ w3.heap.size ≤ w'.heap.size ∧ Below w3.heap.size w3 w')
    (first | assumption | exact ⟨c0, c1, Nat.le_refl _, hrefl⟩ | exact keep2D (by assumption) | exact keep2D ⟨c0, c1, Nat.le_refl _, hrefl⟩ | exact keep2C hs0 (by assumption) hb | exact keep2C hs0 (keep2D (by assumption)) hb | exact keep2C hs0 (keep2D ⟨c0, c1, Nat.le_refl _, hrefl⟩) hb | exact keep2C hs0 ⟨c0, c1, Nat.le_refl _, hrefl⟩ hb)
    (first
      | (go_at_call 39; refine (HText.out _).mono ?_; rintro e w' ⟨rfl, hb⟩; have hbs := hb.size)
      | (go_at_call 17; refine (JO.out _ (last4 (by assumption))).mono ?_; rintro e w' ⟨rfl, hb⟩; have hbs := hb.size))
  have hbf : Below w3.heap.size w3 w' := last4 (by assumption)
  have HBF := Lib.hid (HBV.out.trans (hbf.mono HBV.out.size))
  clear hbf c0 c1
  by_cases hy : y = 0
  · subst hy
    go_wp2_with (fail)
    refine (HBy.out _).mono ?_
    rintro e w4 ⟨rfl, hb4⟩
    have HB4 := Lib.hid (HBF.out.trans (hb4.mono HBF.out.size))
    clear hb4
    have hsA : ((⟨(headL at').toArray⟩ : ByteArray).size : Int) = 8 := by show (((headL at').toArray.size : Nat) : Int) = 8; rw [List.size_toArray, headL_length]; rfl
    have hsB : ((⟨(bytesL z.toNat 8).toArray⟩ : ByteArray).size : Int) = 8 := by show (((bytesL z.toNat 8).toArray.size : Nat) : Int) = 8; rw [List.size_toArray, bytesL_length]; rfl
    go_wp2_with (fail)
    go_ret2
    refine ⟨?_, HB4.out⟩
    show Ending.returned (.tuple #[.string (_ ++ _), _]) = _
    congr 5
  · have hyi : (y != 0) = true := by simpa using hy
    have HY := Lib.hid hy
    clear hy
    go_wp2_with (fail)
    go_ret2
    exact ⟨by first | rfl | (rw [if_neg HY.out]; rfl), HBF.out⟩
end Go.Proofs.Ytcphcgkbjlgkiaa
