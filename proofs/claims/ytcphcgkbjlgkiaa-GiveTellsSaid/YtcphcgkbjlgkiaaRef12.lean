/- The walks of the references Four, and of hardtackref12's Text, of, Make, Roll, Verify. -/
import Derived.Test.YtcphcgkbjlgkiaaGiveLives
import Derived.Test.YtcphcgkbjlgkiaaGiveBackM
import Derived.Laws.BitsAllLaws
namespace Go.Proofs.Ytcphcgkbjlgkiaa
section
open Go.RowKit

theorem big_div (n : Nat) (h : n < 4294967296) : ((n : Int) / 16777216 = ((bigI n 4).toNat : Int)) ∧ ((n : Int) / 65536 % 256 = ((bigI n 5).toNat : Int)) ∧ ((n : Int) / 256 % 256 = ((bigI n 6).toNat : Int)) ∧ ((n : Int) % 256 = ((bigI n 7).toNat : Int)) := by
  simp only [bigI_toNat, Nat.reduceSub, Nat.reducePow]
  omega
set_option maxRecDepth 100000 in
set_option maxHeartbeats 1000000 in
theorem four_any (n : Nat) (hn : n < 4294967296) (w : World) : Calls Try.prog 56 #[.int .u32 (n : Int)] w fun e w' => e = .returned (.string ⟨(bigB n 4).toArray⟩) ∧ Below w.heap.size w w' := by
  have hni : (n : Int) ≤ 4294967295 := by omega
  have hcv : (convert 79 9 (.slice (some ⟨w.heap.size, 0, none⟩) 4 4)).run Try.prog (w.alloc (.cells #[.int .u8 ((n : Int) / 16777216), .int .u8 ((n : Int) / 65536 % 256), .int .u8 ((n : Int) / 256 % 256), .int .u8 ((n : Int) % 256)] 5)) = .ok (.string ⟨(bigB n 4).toArray⟩) (w.alloc (.cells #[.int .u8 ((n : Int) / 16777216), .int .u8 ((n : Int) / 65536 % 256), .int .u8 ((n : Int) / 256 % 256), .int .u8 ((n : Int) % 256)] 5)) := by
    obtain ⟨d1, d2, d3, d4⟩ := big_div n hn
    rw [d1, d2, d3, d4]
    refine run_convert_bytes_back (P := Try.prog) _ 79 9 5 ⟨w.heap.size, 0, none⟩ 4 (bigB n 4) Try.underlying79 Try.underlying5 Try.underlying9 (fun j hj => ?_)
    have ea : (⟨w.heap.size, 0, none⟩ : Addr).add j = ⟨w.heap.size, j, none⟩ := by unfold Addr.add; split <;> simp_all
    rw [ea, (Blk.new w 5 _).cell j]
    have hj4 : j < 4 := hj
    match j, hj4 with
    | 0, _ => rfl
    | 1, _ => rfl
    | 2, _ => rfl
    | 3, _ => rfl
  clear hn
  go_enter Try.func56, Try.ntmps56
  go_wp2_with (fail)
  go_ret
  exact ⟨rfl, (Below.refl _ _).alloc (Nat.le_refl _) _⟩

theorem mk_app (a b : List UInt8) : (⟨a.toArray⟩ : ByteArray) ++ ⟨b.toArray⟩ = ⟨(a ++ b).toArray⟩ := ByteArray.mk_append_mk ..
theorem str_app (a : ByteArray) (b : List UInt8) : a ++ (⟨b.toArray⟩ : ByteArray) = ⟨(a.data.toList ++ b).toArray⟩ := by rw [← mk_app]
theorem str_app2 (a b : ByteArray) : a ++ b = ⟨(a.data.toList ++ b.data.toList).toArray⟩ := by rw [← mk_app]

set_option maxRecDepth 100000 in
set_option maxHeartbeats 1000000 in
theorem rText_any (c h : ByteArray) (a : Nat) (ha : a < 4294967296) (hs : c.size + h.size ≤ 140737488353000) (w : World) :
    Calls Try.prog 40 #[.string c, .string h, .int .u32 (a : Int)] w fun e w' => e = .returned (.string (gtext c.data.toList h.data.toList a)) ∧ Below w.heap.size w w' := by
  have HF := Lib.hid (fun W => four_any a ha W)
  have h1 : (c.size : Int) ≤ 140737488353000 := by omega
  have h2 : (h.size : Int) ≤ 140737488353000 := by omega
  have h3 : (gW.size : Int) = 4 := rfl
  have HG : Hid (gW ++ c ++ h ++ (⟨(bigB a 4).toArray⟩ : ByteArray) = gtext c.data.toList h.data.toList a) := Lib.hid (by
    rw [str_app2, str_app2, str_app2]
    unfold gtext gtextL
    simp)
  have hsA : (((⟨#[103, 105, 118, 101]⟩ : ByteArray)).size : Int) = 4 := rfl
  have hsB : ((⟨(bigB a 4).toArray⟩ : ByteArray).size : Int) = 4 := by show (((bigB a 4).toArray.size : Nat) : Int) = 4; rw [List.size_toArray, bigB_length]; rfl
  have hsC : ((⟨#[103, 105, 118, 101]⟩ : ByteArray) ++ c).size ≤ 140737488354000 := by rw [ByteArray.size_append]; show 4 + c.size ≤ _; omega
  have hsD : (((⟨#[103, 105, 118, 101]⟩ : ByteArray) ++ c) ++ h).size ≤ 140737488354000 := by rw [ByteArray.size_append, ByteArray.size_append]; show 4 + c.size + h.size ≤ _; omega
  clear ha hs
  go_enter Try.func40, Try.ntmps40
  go_wp2_with (fail)
  with_reducible refine (HF.out _).mono ?_
  rintro e w1 ⟨rfl, hb⟩
  have HB := Lib.hid hb
  clear hb
  go_wp2_with (fail)
  go_ret
  refine ⟨?_, HB.out⟩
  rw [← HG.out]
  rfl
theorem rbytes_int (n : Int) (h : 0 ≤ n ∧ n ≤ 18446744073709551615) (w : World) : Calls Try.prog 50 #[.int .u64 n] w fun e w' => e = .returned (.string ⟨(bytesL n.toNat 8).toArray⟩) ∧ Below w.heap.size w w' := by
  have := rbytes_any n.toNat (by omega) w
  rw [Int.toNat_of_nonneg h.1] at this
  exact this

set_option maxRecDepth 100000 in
set_option maxHeartbeats 2000000 in
theorem rof12_any (i : Bool) (xs : List Entry) (A : Option Addr) (n : Nat) (k c : ByteArray) (a at' : Nat) (ha : a < 4294967296) (hat : at' < 4294967296) (hk : k.size ≤ 9223372036854775807) (hc : c.size ≤ 1000) (w : World) (hT : Tab w A xs) (hbig : xs.length ≤ 9223372036854775807) :
    Calls Try.prog 64 #[.agg #[.bool i, .slice A xs.length n], .string k, .string c, .int .u32 (a : Int), .int .u32 (at' : Int)] w fun e w' => e = .returned (.tuple #[.string ⟨(cookL i xs k c.data.toList a at').toArray⟩, .int .i64 (cookE k c.data.toList a at')]) ∧ Below w.heap.size w w' := by
  have hai : (a : Int) ≤ 4294967295 := by omega
  have hati : (at' : Int) ≤ 4294967295 := by omega
  have hB0 : Blk (w.alloc (.cells #[.bool i, .slice A xs.length n] 27)) w.heap.size 27 #[.bool i, .slice A xs.length n] := Blk.new w _ _
  have hb0 : Below w.heap.size w (w.alloc (.cells #[.bool i, .slice A xs.length n] 27)) := (Below.refl _ _).alloc (Nat.le_refl _) _
  have H0 := Lib.hid (And.intro hB0 (And.intro hb0 (hT.below hb0)))
  have HS := Lib.hid (And.intro ha (And.intro hat hc))
  have hh : (⟨(headL at').toArray⟩ : ByteArray).size = 8 := by show (headL at').toArray.size = 8; rw [List.size_toArray, headL_length]
  have HText := Lib.hid (fun W => rText_any c ⟨(headL at').toArray⟩ a ha (by rw [hh]; omega) W)
  have hbd := ofN_bd (i := i) (k := k) (s := gtext c.data.toList (headL at') a) hT.1
  have HOf := Lib.hid (fun W (hT : Tab W A xs) => rof_hash i xs A n k (gtext c.data.toList (headL at') a) W hT hbig hk (by rw [gtext_size, headL_length]; simp; omega))
  have hE : cookE k c.data.toList a at' = sumE k.data.toList (gtext c.data.toList (headL at') a).data.toList := rfl
  have hN : cookN i xs k c.data.toList a at' = ofN i xs k (gtext c.data.toList (headL at') a) := rfl
  have hL : cookL i xs k c.data.toList a at' = if cookE k c.data.toList a at' = 0 then headL at' ++ bytesL (cookN i xs k c.data.toList a at').toNat 8 else [] := rfl
  rw [hL]
  rw [← hE, ← hN] at HOf
  rw [← hN] at hbd
  have hHL : headL at' = gB.data.toList ++ bigB at' 4 := rfl
  generalize cookE k c.data.toList a at' = y at HOf ⊢
  generalize cookN i xs k c.data.toList a at' = z at HOf hbd ⊢
  have HBy := Lib.hid (fun W => rbytes_int z hbd W)
  have HHL := Lib.hid hHL
  have hsz0 : (w.alloc (.cells #[.bool i, .slice A xs.length n] 27)).heap.size = w.heap.size + 1 := World.size_alloc ..
  have HZ := Lib.hid hsz0
  clear ha hat hk hc hT hbig hB0 hb0 hE hN hL hHL hh hbd hsz0
  go_enter Try.func64, Try.ntmps64
  have hF := fun W => four_any at' HS.out.2.1 W
  have HF := Lib.hid hF
  have hgB : (⟨#[1, 0, 0, 0]⟩ : ByteArray) ++ (⟨(bigB at' 4).toArray⟩ : ByteArray) = ⟨(headL at').toArray⟩ := by rw [str_app2, HHL.out]; rfl
  have HGB := Lib.hid hgB
  have hsA0 : (((⟨#[1, 0, 0, 0]⟩ : ByteArray)).size : Int) = 4 := rfl
  have hsB0 : ((⟨(bigB at' 4).toArray⟩ : ByteArray).size : Int) = 4 := by show (((bigB at' 4).toArray.size : Nat) : Int) = 4; rw [List.size_toArray, bigB_length]; rfl
  clear hF hgB
  go_wp2_with (fail)
  with_reducible refine (HF.out _).mono ?_
  rintro e w3 ⟨rfl, hb⟩
  rw [HZ.out] at hb
  have HB3 := Lib.hid hb
  clear hb
  go_wp2_with (fail)
  rw [HGB.out]
  have hb3 := HB3.out
  rw [← HZ.out] at hb3
  have hT3 := H0.out.2.2.below hb3
  have hB3 := H0.out.1.below hb3 (by rw [HZ.out]; omega)
  have c0 : w3.cell? ⟨w.heap.size, 0, none⟩ = some (.bool i) := hB3.cell 0
  have c1 : w3.cell? ⟨w.heap.size, 1, none⟩ = some (.slice A xs.length n) := hB3.cell 1
  have hs0 := hB3.lt
  have hrefl : Below w3.heap.size w3 w3 := Below.refl _ _
  have JO := Lib.hid (fun (W : World) (h : Below w3.heap.size w3 W) => HOf.out W (hT3.below h))
  have HBV := Lib.hid (H0.out.2.1.trans (hb3.mono H0.out.2.1.size))
  clear hT3 hB3 HOf H0 HB3 hb3
  go_region_held3 (fun w' => w'.cell? ⟨w.heap.size, 0, none⟩ = some (.bool i) ∧ w'.cell? ⟨w.heap.size, 1, none⟩ = some (.slice A xs.length n) ∧ w3.heap.size ≤ w'.heap.size ∧ Below w3.heap.size w3 w')
    (first | assumption | exact ⟨c0, c1, Nat.le_refl _, hrefl⟩ | exact keep2D (by assumption) | exact keep2D ⟨c0, c1, Nat.le_refl _, hrefl⟩ | exact keep2C hs0 (by assumption) hb | exact keep2C hs0 (keep2D (by assumption)) hb | exact keep2C hs0 (keep2D ⟨c0, c1, Nat.le_refl _, hrefl⟩) hb | exact keep2C hs0 ⟨c0, c1, Nat.le_refl _, hrefl⟩ hb)
    (first
      | (go_at_call 40; refine (HText.out _).mono ?_; rintro e w' ⟨rfl, hb⟩; have hbs := hb.size)
      | (go_at_call 49; refine (JO.out _ (last4 (by assumption))).mono ?_; rintro e w' ⟨rfl, hb⟩; have hbs := hb.size))
  have hbf : Below w3.heap.size w3 w' := last4 (by assumption)
  have HBF := Lib.hid (HBV.out.trans (hbf.mono HBV.out.size))
  clear hbf c0 c1
  by_cases hy : y = 0
  · subst hy
    go_wp2_with (fail)
    refine (HBy.out _).mono ?_
    rintro e w4 ⟨rfl, hb4⟩
    have HB4 := Lib.hid (HBF.out.trans (hb4.mono HBF.out.size))
    clear hb4
    have hsA : ((⟨(headL at').toArray⟩ : ByteArray).size : Int) = 8 := by show (((headL at').toArray.size : Nat) : Int) = 8; rw [List.size_toArray, headL_length]; rfl
    have hsB : ((⟨(bytesL z.toNat 8).toArray⟩ : ByteArray).size : Int) = 8 := by show (((bytesL z.toNat 8).toArray.size : Nat) : Int) = 8; rw [List.size_toArray, bytesL_length]; rfl
    go_wp2_with (fail)
    go_ret2
    refine ⟨?_, HB4.out⟩
    show Ending.returned (.tuple #[.string (_ ++ _), _]) = _
    congr 5
  · have hyi : (y != 0) = true := by simpa using hy
    have HY := Lib.hid hy
    clear hy
    go_wp2_with (fail)
    go_ret2
    exact ⟨by first | rfl | (rw [if_neg HY.out]; rfl), HBF.out⟩
end
section
open Go.RowKit

theorem rof_at (t : Int) (s : Nat) (h : t % 4294967296 = (s : Int)) (w : World) : Calls Try.prog 65 #[.int .i64 t] w fun e w' => e = .returned (.int .u32 (s : Int)) ∧ Below w.heap.size w w' := by
  have := rof_any t w
  rw [h] at this
  exact this.mono fun e w' ⟨he, hw⟩ => ⟨he, below_eq hw⟩

set_option maxRecDepth 100000 in
set_option maxHeartbeats 1000000 in
theorem rMake_no (i : Bool) (A : Option Addr) (m n : Nat) (k c : ByteArray) (a : Nat) (now : Int) (hc : c.size ≠ 8) (hs : c.size ≤ maxLen) (w : World) :
    Calls Try.prog 34 #[.agg #[.bool i, .slice A m n], .string k, .string c, .int .u32 (a : Int), .int .i64 now] w fun e w' => e = .returned (.tuple #[.string ⟨#[]⟩, .int .i64 2]) ∧ Below w.heap.size w w' := by
  have h8 : ((c.size : Int) != 8) = true := by simp only [bne_iff_ne, ne_eq]; omega
  unfold maxLen at hs
  clear hc
  go_enter Try.func34, Try.ntmps34
  go_wp2_with (fail)
  go_ret2
  exact ⟨rfl, (Below.refl _ _).alloc (Nat.le_refl _) _⟩

set_option maxRecDepth 100000 in
set_option maxHeartbeats 2000000 in
theorem rMake_yes (i : Bool) (xs : List Entry) (A : Option Addr) (n : Nat) (k c : ByteArray) (a : Nat) (now : Int) (s : Nat) (hs : now % 4294967296 = (s : Int)) (ha : a < 4294967296) (hk : k.size ≤ 9223372036854775807) (hc : c.size = 8) (w : World) (hT : Tab w A xs) (hbig : xs.length ≤ 9223372036854775807) :
    Calls Try.prog 34 #[.agg #[.bool i, .slice A xs.length n], .string k, .string c, .int .u32 (a : Int), .int .i64 now] w fun e w' => e = .returned (.tuple #[.string ⟨(cookL i xs k c.data.toList a s).toArray⟩, .int .i64 (cookE k c.data.toList a s)]) ∧ Below w.heap.size w w' := by
  have h8 : ((c.size : Int) != 8) = false := by simp [hc]
  have hs32 : s < 4294967296 := by omega
  have hB0 : Blk (w.alloc (.cells #[.bool i, .slice A xs.length n] 27)) w.heap.size 27 #[.bool i, .slice A xs.length n] := Blk.new w _ _
  have hb0 : Below w.heap.size w (w.alloc (.cells #[.bool i, .slice A xs.length n] 27)) := (Below.refl _ _).alloc (Nat.le_refl _) _
  have HOf := Lib.hid (fun W => rof_at now s hs W)
  have HCk := Lib.hid (fun W (hT : Tab W A xs) => rof12_any i xs A n k c a s ha hs32 hk (by omega) W hT hbig)
  generalize cookE k c.data.toList a s = y at HCk ⊢
  generalize cookL i xs k c.data.toList a s = z at HCk ⊢
  have H0 := Lib.hid (And.intro hB0 (And.intro hb0 (hT.below hb0)))
  have hB8 : (c.size : Int) ≤ 8 := by omega
  clear hs ha hk hc hT hbig hB0 hb0 hs32
  go_enter Try.func34, Try.ntmps34
  go_wp2_with (fail)
  obtain ⟨V, hV⟩ : ∃ V, w.alloc (.cells #[.bool i, .slice A xs.length n] 27) = V := ⟨_, rfl⟩
  rw [hV]
  obtain ⟨hB, hb0, hT⟩ := H0.out
  rw [hV] at hB hb0 hT
  have c0 : V.cell? ⟨w.heap.size, 0, none⟩ = some (.bool i) := hB.cell 0
  have c1 : V.cell? ⟨w.heap.size, 1, none⟩ = some (.slice A xs.length n) := hB.cell 1
  have hs0 := hB.lt
  have hrefl : Below V.heap.size V V := Below.refl _ _
  have JO := Lib.hid (fun (W : World) (h : Below V.heap.size V W) => HCk.out W (hT.below h))
  have HBV := Lib.hid hb0
  clear hB hT hb0 hV H0 HCk
  go_region_held3 (fun w' => w'.cell? ⟨w.heap.size, 0, none⟩ = some (.bool i) ∧ w'.cell? ⟨w.heap.size, 1, none⟩ = some (.slice A xs.length n) ∧ V.heap.size ≤ w'.heap.size ∧ Below V.heap.size V w')
    (first | assumption | exact ⟨c0, c1, Nat.le_refl _, hrefl⟩ | exact keep2D (by assumption) | exact keep2D ⟨c0, c1, Nat.le_refl _, hrefl⟩ | exact keep2C hs0 (by assumption) hb | exact keep2C hs0 (keep2D (by assumption)) hb | exact keep2C hs0 (keep2D ⟨c0, c1, Nat.le_refl _, hrefl⟩) hb | exact keep2C hs0 ⟨c0, c1, Nat.le_refl _, hrefl⟩ hb)
    (first
      | (go_at_call 65; refine (HOf.out _).mono ?_; rintro e w' ⟨rfl, hb⟩; have hbs := hb.size)
      | (go_at_call 64; refine (JO.out _ (last4 (by assumption))).mono ?_; rintro e w' ⟨rfl, hb⟩; have hbs := hb.size))
  have hbf : Below V.heap.size V w' := last4 (by assumption)
  have HBF := Lib.hid (HBV.out.trans (hbf.mono HBV.out.size))
  clear hbf c0 c1
  go_wp2_with (fail)
  go_ret2
  exact ⟨rfl, HBF.out⟩

set_option maxRecDepth 100000 in
theorem rRoll_no (sn sw nx : ByteArray) (hm : nx.size ≤ maxLen) (h : nx.size ≠ 16) (w : World) :
    Calls Try.prog 38 #[.agg #[.string sn, .string sw], .string nx] w fun e w' => e = .returned (.tuple #[.agg #[.string ⟨#[]⟩, .string ⟨#[]⟩], .int .i64 2]) ∧ Below w.heap.size w w' := by
  have h16 : ((nx.size : Int) != 16) = true := by simp only [bne_iff_ne, ne_eq]; omega
  unfold maxLen at hm
  clear h
  go_enter Try.func38, Try.ntmps38
  go_wp2
  refine bodyPost_ret (v := .tuple #[.agg #[.string ⟨#[]⟩, .string ⟨#[]⟩], .int .i64 2]) (by simp [results, Try.results38, go_sem]) rfl ⟨rfl, ?_⟩
  exact box2_below _ _ _
set_option maxRecDepth 100000 in
theorem rRoll_yes (sn sw nx : ByteArray) (h : nx.size = 16) (w : World) :
    Calls Try.prog 38 #[.agg #[.string sn, .string sw], .string nx] w fun e w' => e = .returned (.tuple #[.agg #[.string nx, .string sn], .int .i64 0]) ∧ Below w.heap.size w w' := by
  have h16 : ((nx.size : Int) != 16) = false := by simp [h]
  have hm : (nx.size : Int) ≤ 16 := by omega
  clear h
  go_enter Try.func38, Try.ntmps38
  go_wp2
  refine bodyPost_ret (v := .tuple #[.agg #[.string nx, .string sn], .int .i64 0]) (by simp [results, Try.results38, go_sem]) rfl ⟨rfl, ?_⟩
  exact box2_below _ _ _

set_option maxRecDepth 100000 in
set_option maxHeartbeats 1000000 in
theorem rVerify_early (i : Bool) (A : Option Addr) (m n : Nat) (sn sw c s : ByteArray) (a : Nat) (now : Int) (hcm : c.size ≤ maxLen) (hsm : s.size ≤ maxLen)
    (h : c.size ≠ 8 ∨ (c.size = 8 ∧ s.data.toList = []) ∨ (c.size = 8 ∧ s.data.toList ≠ [] ∧ s.size ≠ 16)) (w : World) :
    Calls Try.prog 36 #[.agg #[.bool i, .slice A m n], .agg #[.string sn, .string sw], .string c, .string s, .int .u32 (a : Int), .int .i64 now] w
      (VerPost (if c.size ≠ 8 then (false, 2) else if s.data.toList = [] then (false, 3) else (false, 2)) w) := by
  unfold maxLen at hcm hsm
  rcases h with h | ⟨h, h2⟩ | ⟨h, h2, h3⟩
  · rw [if_pos h]
    have h8 : ((c.size : Int) != 8) = true := by simp only [bne_iff_ne, ne_eq]; omega
    clear h
    go_enter Try.func36, Try.ntmps36
    go_wp2_with (fail)
    go_ret2
    exact ⟨rfl, box2_below _ _ _⟩
  · rw [if_neg (by omega), if_pos h2]
    have h8 : ((c.size : Int) != 8) = false := by simp [h]
    have he : s.toList = [] := by rw [ByteArray.toList_eq]; exact h2
    have he2 : s.toList.isEmpty = true := by rw [he]; rfl
    clear h h2
    go_enter Try.func36, Try.ntmps36
    go_wp2_with (fail)
    go_ret2
    exact ⟨rfl, box2_below _ _ _⟩
  · rw [if_neg (by omega), if_neg h2]
    have h8 : ((c.size : Int) != 8) = false := by simp [h]
    have he : ¬ s.toList = [] := by rw [ByteArray.toList_eq]; exact h2
    have he2 : s.toList.isEmpty = false := by simpa using he
    have h16 : ((s.size : Int) != 16) = true := by simp only [bne_iff_ne, ne_eq]; omega
    clear h h2 h3
    go_enter Try.func36, Try.ntmps36
    go_wp2_with (fail)
    go_ret2
    exact ⟨rfl, box2_below _ _ _⟩

set_option maxRecDepth 100000 in
set_option maxHeartbeats 1000000 in
theorem rVerify_form (i : Bool) (A : Option Addr) (m n : Nat) (sn sw c s : ByteArray) (a : Nat) (now : Int) (hc : c.size = 8) (hs : s.size = 16) (hp : s.data.toList.take 4 ≠ [1, 0, 0, 0]) (w : World) :
    Calls Try.prog 36 #[.agg #[.bool i, .slice A m n], .agg #[.string sn, .string sw], .string c, .string s, .int .u32 (a : Int), .int .i64 now] w (VerPost (false, 2) w) := by
  have h8 : ((c.size : Int) != 8) = false := by simp [hc]
  have hne : s.data.toList ≠ [] := by
    intro h
    have e : s.data.toList.length = s.size := by simp
    rw [h, hs] at e
    simp at e
  have he : ¬ s.toList = [] := by rw [ByteArray.toList_eq]; exact hne
  have he2 : s.toList.isEmpty = false := by simpa using he
  have h16 : ((s.size : Int) != 16) = false := by simp [hs]
  have hP : ((s.extract 0 4).toList == [1, 0, 0, 0]) = false := by
    rw [ByteArray.toList_eq, extract_list s 0 4 (by omega)]
    simpa using hp
  have h4 : 4 ≤ s.size := by omega
  have h4i : (4 : Int) ≤ (s.size : Int) := by omega
  have hcm : (c.size : Int) ≤ 9223372036854775807 := by omega
  have hsm : (s.size : Int) ≤ 9223372036854775807 := by omega
  clear hc hs hp hne
  go_enter Try.func36, Try.ntmps36
  go_wp2_with (fail)
  go_ret2
  exact ⟨rfl, box2_below _ _ _⟩
end
section
open Go.RowKit

theorem or_add (a b k : Nat) (hb : b < 2 ^ k) : a * 2 ^ k ||| b = a * 2 ^ k + b := by
  rw [Nat.mul_comm, ← Nat.two_pow_add_eq_or_of_lt hb]
theorem four_or (b4 b5 b6 b7 : UInt8) : bits .or .u32 (bits .or .u32 (bits .or .u32 ((b4.toNat : Int) % 4294967296 * 16777216 % 4294967296) ((b5.toNat : Int) % 4294967296 * 65536 % 4294967296)) ((b6.toNat : Int) % 4294967296 * 256 % 4294967296)) ((b7.toNat : Int) % 4294967296) =
    ((((b4.toNat * 256 + b5.toNat) * 256 + b6.toNat) * 256 + b7.toNat : Nat) : Int) := by
  have h4 := b4.toNat_lt
  have h5 := b5.toNat_lt
  have h6 := b6.toNat_lt
  have h7 := b7.toNat_lt
  generalize b4.toNat = a at *
  generalize b5.toNat = b at *
  generalize b6.toNat = c at *
  generalize b7.toNat = d at *
  have e1 : (a : Int) % 4294967296 * 16777216 % 4294967296 = ((a * 16777216 : Nat) : Int) := by omega
  have e2 : (b : Int) % 4294967296 * 65536 % 4294967296 = ((b * 65536 : Nat) : Int) := by omega
  have e3 : (c : Int) % 4294967296 * 256 % 4294967296 = ((c * 256 : Nat) : Int) := by omega
  have e4 : (d : Int) % 4294967296 = (d : Int) := by omega
  rw [e1, e2, e3, e4, u32_or_nat _ _ (by omega) (by omega)]
  have o1 : a * 16777216 ||| b * 65536 = a * 16777216 + b * 65536 := by
    have := or_add a (b * 65536) 24 (by omega)
    simpa using this
  rw [o1, u32_or_nat _ _ (by omega) (by omega)]
  have o2 : (a * 16777216 + b * 65536) ||| c * 256 = a * 16777216 + b * 65536 + c * 256 := by
    have := or_add (a * 256 + b) (c * 256) 16 (by omega)
    rw [show (a * 256 + b) * 2 ^ 16 = a * 16777216 + b * 65536 by omega] at this
    exact this
  rw [o2, u32_or_nat _ _ (by omega) (by omega)]
  have o3 : (a * 16777216 + b * 65536 + c * 256) ||| d = a * 16777216 + b * 65536 + c * 256 + d := by
    have := or_add ((a * 256 + b) * 256 + c) d 8 (by omega)
    rw [show ((a * 256 + b) * 256 + c) * 2 ^ 8 = a * 16777216 + b * 65536 + c * 256 by omega] at this
    exact this
  rw [o3]
  omega

set_option maxRecDepth 100000 in
set_option maxHeartbeats 4000000 in
theorem rVerify_main (i : Bool) (xs : List Entry) (A : Option Addr) (n : Nat) (sn sw c s : ByteArray) (a : Nat) (now : Int) (hc : c.size = 8) (hs : s.size = 16) (hp : s.data.toList.take 4 = [1, 0, 0, 0]) (ha : a < 4294967296) (hsn : sn.size ≤ 9223372036854775807) (hsw : sw.size ≤ 9223372036854775807) (w : World) (hT : Tab w A xs) (hbig : xs.length ≤ 9223372036854775807) :
    Calls Try.prog 36 #[.agg #[.bool i, .slice A xs.length n], .agg #[.string sn, .string sw], .string c, .string s, .int .u32 (a : Int), .int .i64 now] w (VerPost (if freshN now (stampN s.data.toList) ≠ 0 then (false, 10) else
  if cookE sn c.data.toList a (stampN s.data.toList) = 0 ∧ cookL i xs sn c.data.toList a (stampN s.data.toList) = s.data.toList then (decide (1800 < s32 (now - stampN s.data.toList)), 0) else
  if cookE sw c.data.toList a (stampN s.data.toList) = 0 ∧ cookL i xs sw c.data.toList a (stampN s.data.toList) = s.data.toList then (true, 0) else (false, 6)) w) := by
  have h8 : ((c.size : Int) != 8) = false := by simp [hc]
  have hne : s.data.toList ≠ [] := by
    intro h
    have e : s.data.toList.length = s.size := by simp
    rw [h, hs] at e
    simp at e
  have he : ¬ s.toList = [] := by rw [ByteArray.toList_eq]; exact hne
  have he2 : s.toList.isEmpty = false := by simpa using he
  have h16 : ((s.size : Int) != 16) = false := by simp [hs]
  have hP : ((s.extract 0 4).toList == [1, 0, 0, 0]) = true := by
    rw [ByteArray.toList_eq, extract_list s 0 4 (by omega)]
    simpa using hp
  have hcm : (c.size : Int) ≤ 9223372036854775807 := by omega
  have hsm : (s.size : Int) ≤ 16 := by omega
  have hsn8 : 8 ≤ s.size := by omega
  have hsi8 : (8 : Int) ≤ (s.size : Int) := by omega
  have hst := stampN_lt s.data.toList
  have hst4 : ∃ b4 b5 b6 b7 : UInt8, s.data.toList[4]? = some b4 ∧ s.data.toList[5]? = some b5 ∧ s.data.toList[6]? = some b6 ∧ s.data.toList[7]? = some b7 ∧ stampN s.data.toList = ((b4.toNat * 256 + b5.toNat) * 256 + b6.toNat) * 256 + b7.toNat := by
    have hl : s.data.toList.length = 16 := by simpa using hs
    refine ⟨s.data.toList[4], s.data.toList[5], s.data.toList[6], s.data.toList[7], List.getElem?_eq_getElem _, List.getElem?_eq_getElem _, List.getElem?_eq_getElem _, List.getElem?_eq_getElem _, ?_⟩
    have h4 : (s.data.toList.drop 4).take 4 = [s.data.toList[4], s.data.toList[5], s.data.toList[6], s.data.toList[7]] := by
      rw [List.drop_eq_getElem_cons (by omega), List.take_succ_cons, List.drop_eq_getElem_cons (by omega), List.take_succ_cons, List.drop_eq_getElem_cons (by omega), List.take_succ_cons, List.drop_eq_getElem_cons (by omega), List.take_succ_cons]
      rfl
    unfold stampN
    rw [h4]
    simp [beN]
  obtain ⟨b4, b5, b6, b7, e4, e5, e6, e7, hstN⟩ := hst4
  have hby : ∀ (k : Nat) (c : UInt8) (hk : k < s.size), s.data.toList[k]? = some c → (s[k]'hk) = c := by
    intro k c hk h
    rw [List.getElem?_eq_getElem (by simpa using hk)] at h
    exact Option.some.inj h
  have l4 : 4 < s.size := by omega
  have l5 : 5 < s.size := by omega
  have l6 : 6 < s.size := by omega
  have l7 : 7 < s.size := by omega
  have q4 : (s[4]'l4) = b4 := hby 4 b4 l4 e4
  have q5 : (s[5]'l5) = b5 := hby 5 b5 l5 e5
  have q6 : (s[6]'l6) = b6 := hby 6 b6 l6 e6
  have q7 : (s[7]'l7) = b7 := hby 7 b7 l7 e7
  have HQ := Lib.hid hstN
  clear hby e4 e5 e6 e7 hstN
  generalize stampN s.data.toList = at' at HQ hst ⊢
  have hCk := fun (k : ByteArray) hk W hT => rof12_any i xs A n k c a at' ha hst hk (by omega) W hT hbig
  have HFr := Lib.hid (fun W => rfresh_any now (at' : Int) (by omega) (by omega) W)
  have HRe := Lib.hid (fun W => rrenew_any now (at' : Int) (by omega) (by omega) W)
  have HC1 := Lib.hid (hCk sn hsn)
  have HC2 := Lib.hid (hCk sw hsw)
  generalize cookE sn c.data.toList a at' = y1 at HC1 ⊢
  generalize cookE sw c.data.toList a at' = y2 at HC2 ⊢
  generalize cookL i xs sn c.data.toList a at' = z1 at HC1 ⊢
  obtain ⟨Z1, hZ1⟩ : ∃ Z : ByteArray, (⟨z1.toArray⟩ : ByteArray) = Z := ⟨_, rfl⟩
  rw [hZ1] at HC1
  obtain rfl : z1 = Z1.data.toList := by rw [← hZ1]
  clear hZ1
  generalize cookL i xs sw c.data.toList a at' = z2 at HC2 ⊢
  obtain ⟨Z2, hZ2⟩ : ∃ Z : ByteArray, (⟨z2.toArray⟩ : ByteArray) = Z := ⟨_, rfl⟩
  rw [hZ2] at HC2
  obtain rfl : z2 = Z2.data.toList := by rw [← hZ2]
  clear hZ2
  generalize freshN now at' = fr at HFr ⊢
  generalize decide (1800 < s32 (now - at')) = re at HRe ⊢
  obtain ⟨r, hr⟩ : ∃ r, (if fr ≠ 0 then (false, 10) else if y1 = 0 ∧ Z1.data.toList = s.data.toList then (re, 0) else if y2 = 0 ∧ Z2.data.toList = s.data.toList then (true, 0) else (false, (6 : Int))) = r := ⟨_, rfl⟩
  rw [hr]
  have HRes := Lib.hid hr
  clear hr
  have hB0 : Blk ((w.alloc (.cells #[.bool i, .slice A xs.length n] 27)).alloc (.cells #[.string sn, .string sw] 59)) w.heap.size 27 #[.bool i, .slice A xs.length n] := (Blk.new w _ _).alloc _
  have hB1 : Blk ((w.alloc (.cells #[.bool i, .slice A xs.length n] 27)).alloc (.cells #[.string sn, .string sw] 59)) (w.heap.size + 1) 59 #[.string sn, .string sw] := by
    have := Blk.new (w.alloc (.cells #[.bool i, .slice A xs.length n] 27)) 59 #[.string sn, .string sw]
    rw [World.size_alloc] at this
    exact this
  have hb0 := box2_below w (.cells #[.bool i, .slice A xs.length n] 27) (.cells #[.string sn, .string sw] 59)
  have H0 := Lib.hid (And.intro hB0 (And.intro hB1 (And.intro hb0 (hT.below hb0))))
  have hati : (at' : Int) ≤ 4294967295 := by omega
  clear hc hs hp hne hCk hB0 hB1 hb0 hT ha hsn hsw hbig hst
  go_enter Try.func36, Try.ntmps36
  go_wp2_with (fail)
  go_quiet (fail)
  go_wp2_with (fail)
  rw [four_or, ← HQ.out]
  have hV := H0.out
  have hbq : Below ((w.alloc (.cells #[.bool i, .slice A xs.length n] 27)).alloc (.cells #[.string sn, .string sw] 59)).heap.size ((w.alloc (.cells #[.bool i, .slice A xs.length n] 27)).alloc (.cells #[.string sn, .string sw] 59)) (((w.alloc (.cells #[.bool i, .slice A xs.length n] 27)).alloc (.cells #[.string sn, .string sw] 59)).drewN nq) := below_drewN (Below.refl _ _) nq
  have H1 := Lib.hid (And.intro (hV.1.below hbq hV.1.lt) (And.intro (hV.2.1.below hbq hV.2.1.lt) (And.intro (hV.2.2.1.trans (hbq.mono hV.2.2.1.size)) (hV.2.2.2.below hbq))))
  clear hV hbq H0 HQ q4 q5 q6 q7
  generalize ((w.alloc (.cells #[.bool i, .slice A xs.length n] 27)).alloc (.cells #[.string sn, .string sw] 59)).drewN nq = w3 at H1 ⊢
  with_reducible refine (HFr.out _).mono ?_
  rintro e w4 ⟨rfl, rfl⟩
  by_cases hf : fr = 0
  · subst hf
    obtain ⟨hB0, hB1, hb0, hT⟩ := H1.out
    have c0 : w3.cell? ⟨w.heap.size, 0, none⟩ = some (.bool i) := hB0.cell 0
    have c1 : w3.cell? ⟨w.heap.size, 1, none⟩ = some (.slice A xs.length n) := hB0.cell 1
    have d0 : w3.cell? ⟨w.heap.size + 1, 0, none⟩ = some (.string sn) := hB1.cell 0
    have d1 : w3.cell? ⟨w.heap.size + 1, 1, none⟩ = some (.string sw) := hB1.cell 1
    have HCa := Lib.hid (HC1.out _ hT)
    clear hB0 hB1 hb0 hT
    go_wp2_with (fail)
    with_reducible refine HCa.out.mono ?_
    rintro e w5 ⟨rfl, hb5⟩
    have hall : Blk w5 w.heap.size 27 #[.bool i, .slice A xs.length n] ∧ Blk w5 (w.heap.size + 1) 59 #[.string sn, .string sw] ∧ Below w.heap.size w w5 ∧ Tab w5 A xs :=
      ⟨H1.out.1.below hb5 H1.out.1.lt, H1.out.2.1.below hb5 H1.out.2.1.lt, H1.out.2.2.1.trans (hb5.mono H1.out.2.2.1.size), H1.out.2.2.2.below hb5⟩
    have H5 := Lib.hid hall
    have c0 : w5.cell? ⟨w.heap.size, 0, none⟩ = some (.bool i) := hall.1.cell 0
    have c1 : w5.cell? ⟨w.heap.size, 1, none⟩ = some (.slice A xs.length n) := hall.1.cell 1
    have d0 : w5.cell? ⟨w.heap.size + 1, 0, none⟩ = some (.string sn) := hall.2.1.cell 0
    have d1 : w5.cell? ⟨w.heap.size + 1, 1, none⟩ = some (.string sw) := hall.2.1.cell 1
    have HCb := Lib.hid (HC2.out _ hall.2.2.2)
    clear hb5 hall
    have hz : ((y1 == 0) = true ∧ (Z1.toList == s.toList) = true) ∨ (¬ (y1 = 0 ∧ Z1.data.toList = s.data.toList) ∧ ((y1 == 0) = false ∨ ((y1 == 0) = true ∧ (Z1.toList == s.toList) = false))) := by
      have hM : (y1 = 0 ∧ Z1.data.toList = s.data.toList) ↔ ((y1 == 0) = true ∧ (Z1.toList == s.toList) = true) := by
        rw [ByteArray.toList_eq, ByteArray.toList_eq]; simp
      rw [hM]
      cases (y1 == 0) <;> cases (Z1.toList == s.toList) <;> simp
    have hz2 : ((y2 == 0) = true ∧ (Z2.toList == s.toList) = true ∧ (y2 = 0 ∧ Z2.data.toList = s.data.toList)) ∨ (¬ (y2 = 0 ∧ Z2.data.toList = s.data.toList) ∧ ((y2 == 0) = false ∨ ((y2 == 0) = true ∧ (Z2.toList == s.toList) = false))) := by
      have hM : (y2 = 0 ∧ Z2.data.toList = s.data.toList) ↔ ((y2 == 0) = true ∧ (Z2.toList == s.toList) = true) := by
        rw [ByteArray.toList_eq, ByteArray.toList_eq]; simp
      rw [hM]
      cases (y2 == 0) <;> cases (Z2.toList == s.toList) <;> simp
    have HZ2 := Lib.hid hz2
    clear hz2
    rcases hz with ⟨h1, h2⟩ | ⟨hno, hz⟩
    · have HY : Hid (y1 = 0 ∧ Z1.data.toList = s.data.toList) := Lib.hid (by
        rw [ByteArray.toList_eq, ByteArray.toList_eq] at h2
        exact ⟨by simpa using h1, by simpa using h2⟩)
      go_wp2_with (fail)
      with_reducible refine (HRe.out _).mono ?_
      rintro e w6 ⟨rfl, rfl⟩
      go_wp2_with (fail)
      go_ret2
      have hr := HRes.out
      rw [if_neg (by simp), if_pos HY.out] at hr
      rw [← hr]
      exact ⟨rfl, H5.out.2.2.1⟩
    · have HNO := Lib.hid hno
      clear hno
      rcases hz with h1 | ⟨h1, h2⟩
      all_goals
        rcases HZ2.out with ⟨g1, g2, g3⟩ | ⟨g3, g1 | ⟨g1, g2⟩⟩
        all_goals
          have G3 := Lib.hid g3
          clear g3
          go_wp2_with (fail)
          with_reducible refine HCb.out.mono ?_
          rintro e w6 ⟨rfl, hb6⟩
          have H6 := Lib.hid (H5.out.2.2.1.trans (hb6.mono H5.out.2.2.1.size))
          clear hb6
          go_wp2_with (fail)
          go_ret2
          have hr := HRes.out
          rw [if_neg (by simp), if_neg HNO.out] at hr
          first
            | (rw [if_pos G3.out] at hr; rw [← hr]; exact ⟨rfl, H6.out⟩)
            | (rw [if_neg G3.out] at hr; rw [← hr]; exact ⟨rfl, H6.out⟩)
  · have hfi : (fr != 0) = true := by simpa using hf
    have HF := Lib.hid hf
    clear hf
    go_wp2_with (fail)
    go_ret2
    have hr := HRes.out
    rw [if_pos HF.out] at hr
    rw [← hr]
    exact ⟨rfl, H1.out.2.2.1⟩

theorem rVerify_any (i : Bool) (xs : List Entry) (A : Option Addr) (n : Nat) (sn sw c s : ByteArray) (a : Nat) (now : Int) (hcm : c.size ≤ maxLen) (hsm : s.size ≤ maxLen) (ha : a < 4294967296) (hsn : sn.size ≤ maxLen) (hsw : sw.size ≤ maxLen) (w : World) (hT : Tab w A xs) (hbig : xs.length ≤ 9223372036854775807) :
    Calls Try.prog 36 #[.agg #[.bool i, .slice A xs.length n], .agg #[.string sn, .string sw], .string c, .string s, .int .u32 (a : Int), .int .i64 now] w (VerPost (verR i xs sn sw c.data.toList s.data.toList a now) w) := by
  have hcl : c.data.toList.length = c.size := by simp
  have hsl : s.data.toList.length = s.size := by simp
  unfold verR
  rw [hcl, hsl]
  by_cases h8 : c.size ≠ 8
  · rw [if_pos h8]
    have := rVerify_early i A xs.length n sn sw c s a now hcm hsm (.inl h8) w
    rw [if_pos h8] at this
    exact this
  · rw [if_neg h8]
    have h8' : c.size = 8 := by omega
    by_cases he : s.data.toList = []
    · rw [if_pos he]
      have := rVerify_early i A xs.length n sn sw c s a now hcm hsm (.inr (.inl ⟨h8', he⟩)) w
      rw [if_neg h8, if_pos he] at this
      exact this
    · rw [if_neg he]
      by_cases h16 : s.size = 16
      · by_cases hp : s.data.toList.take 4 = [1, 0, 0, 0]
        · rw [if_neg (by rintro (h | h); exact h h16; exact h hp)]
          exact rVerify_main i xs A n sn sw c s a now h8' h16 hp ha (by unfold maxLen at hsn; omega) (by unfold maxLen at hsw; omega) w hT hbig
        · rw [if_pos (.inr hp)]
          exact rVerify_form i A xs.length n sn sw c s a now h8' h16 hp w
      · rw [if_pos (.inl h16)]
        have := rVerify_early i A xs.length n sn sw c s a now hcm hsm (.inr (.inr ⟨h8', he, h16⟩)) w
        rw [if_neg h8, if_neg he] at this
        exact this
end
end Go.Proofs.Ytcphcgkbjlgkiaa
