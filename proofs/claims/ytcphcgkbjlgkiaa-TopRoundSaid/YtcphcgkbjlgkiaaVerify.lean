/- The walks of package give's Make, Verify and Roll. The walk of package give's Verify. -/
import Derived.Test.YtcphcgkbjlgkiaaGive
namespace Go.Proofs.Ytcphcgkbjlgkiaa
open Go.RowKit

theorem of_at (t : Int) (s : Nat) (h : t % 4294967296 = (s : Int)) (w : World) : Calls Try.prog 63 #[.int .i64 t] w fun e w' => e = .returned (.int .u32 (s : Int)) ∧ Below w.heap.size w w' := by
  have := of_any t w
  rw [h] at this
  exact this.mono fun e w' ⟨he, hw⟩ => ⟨he, below_eq hw⟩

set_option maxRecDepth 100000 in
set_option maxHeartbeats 1000000 in
theorem Make_no (i : Bool) (A : Option Addr) (m n : Nat) (k c : ByteArray) (a : Nat) (now : Int) (hc : c.size ≠ 8) (hs : c.size ≤ maxLen) (w : World) :
    Calls Try.prog 33 #[.agg #[.bool i, .slice A m n], .string k, .string c, .int .u32 (a : Int), .int .i64 now] w fun e w' => e = .returned (.tuple #[.string ⟨#[]⟩, .int .i64 2]) ∧ Below w.heap.size w w' := by
  have h8 : ((c.size : Int) != 8) = true := by simp only [bne_iff_ne, ne_eq]; omega
  unfold maxLen at hs
  clear hc
  go_enter Try.func33, Try.ntmps33
  go_wp2_with (fail)
  go_ret2
  exact ⟨rfl, (Below.refl _ _).alloc (Nat.le_refl _) _⟩

set_option maxRecDepth 100000 in
set_option maxHeartbeats 2000000 in
theorem Make_yes (i : Bool) (xs : List Entry) (A : Option Addr) (n : Nat) (k c : ByteArray) (a : Nat) (now : Int) (s : Nat) (hs : now % 4294967296 = (s : Int)) (ha : a < 4294967296) (hk : k.size ≤ 9223372036854775807) (hc : c.size = 8) (w : World) (hT : Tab w A xs) (hbig : xs.length ≤ 9223372036854775807) :
    Calls Try.prog 33 #[.agg #[.bool i, .slice A xs.length n], .string k, .string c, .int .u32 (a : Int), .int .i64 now] w fun e w' => e = .returned (.tuple #[.string ⟨(cookL i xs k c.data.toList a s).toArray⟩, .int .i64 (cookE k c.data.toList a s)]) ∧ Below w.heap.size w w' := by
  have h8 : ((c.size : Int) != 8) = false := by simp [hc]
  have hs32 : s < 4294967296 := by omega
  have hB0 : Blk (w.alloc (.cells #[.bool i, .slice A xs.length n] 27)) w.heap.size 27 #[.bool i, .slice A xs.length n] := Blk.new w _ _
  have hb0 : Below w.heap.size w (w.alloc (.cells #[.bool i, .slice A xs.length n] 27)) := (Below.refl _ _).alloc (Nat.le_refl _) _
  have HOf := Lib.hid (fun W => of_at now s hs W)
  have HCk := Lib.hid (fun W (hT : Tab W A xs) => cookie_any i xs A n k c a s ha hs32 hk (by omega) W hT hbig)
  generalize cookE k c.data.toList a s = y at HCk ⊢
  generalize cookL i xs k c.data.toList a s = z at HCk ⊢
  have H0 := Lib.hid (And.intro hB0 (And.intro hb0 (hT.below hb0)))
  have hB8 : (c.size : Int) ≤ 8 := by omega
  clear hs ha hk hc hT hbig hB0 hb0 hs32
  go_enter Try.func33, Try.ntmps33
  go_wp2_with (fail)
  obtain ⟨V, hV⟩ : ∃ V, w.alloc (.cells #[.bool i, .slice A xs.length n] 27) = V := ⟨_, rfl⟩
  rw [hV]
  obtain ⟨hB, hb0, hT⟩ := H0.out
  rw [hV] at hB hb0 hT
  have c0 : V.cell? ⟨w.heap.size, 0, none⟩ = some (.bool i) := hB.cell 0
  have c1 : V.cell? ⟨w.heap.size, 1, none⟩ = some (.slice A xs.length n) := hB.cell 1
  have hs0 := hB.lt
  have hrefl : Below V.heap.size V V := Below.refl _ _
  have JO := Lib.hid (fun (W : World) (h : Below V.heap.size V W) => HCk.out W (hT.below h))
  have HBV := Lib.hid hb0
  clear hB hT hb0 hV H0 HCk
  go_region_held3 (fun w' => w'.cell? ⟨w.heap.size, 0, none⟩ = some (.bool i) ∧ w'.cell? ⟨w.heap.size, 1, none⟩ = some (.slice A xs.length n) ∧ V.heap.size ≤ w'.heap.size ∧ Below V.heap.size V w')
    (first | assumption | exact ⟨c0, c1, Nat.le_refl _, hrefl⟩ | exact keep2D (by assumption) | exact keep2D ⟨c0, c1, Nat.le_refl _, hrefl⟩ | exact keep2C hs0 (by assumption) hb | exact keep2C hs0 (keep2D (by assumption)) hb | exact keep2C hs0 (keep2D ⟨c0, c1, Nat.le_refl _, hrefl⟩) hb | exact keep2C hs0 ⟨c0, c1, Nat.le_refl _, hrefl⟩ hb)
    (first
      | (go_at_call 63; refine (HOf.out _).mono ?_; rintro e w' ⟨rfl, hb⟩; have hbs := hb.size)
      | (go_at_call 62; refine (JO.out _ (last4 (by assumption))).mono ?_; rintro e w' ⟨rfl, hb⟩; have hbs := hb.size))
  have hbf : Below V.heap.size V w' := last4 (by assumption)
  have HBF := Lib.hid (HBV.out.trans (hbf.mono HBV.out.size))
  clear hbf c0 c1
  go_wp2_with (fail)
  go_ret2
  exact ⟨rfl, HBF.out⟩

theorem prefix_in (s : ByteArray) (hs : s.size = 16) (w : World) : Calls Try.prog 93 #[.string s, .string gB] w fun e w' => e = .returned (.bool ((s.extract 0 4).toList == gB.toList)) ∧ w = w' := by
  have h16 : (s.size : Int) = 16 := by omega
  have g4 : (gB.size : Int) = 4 := rfl
  clear hs
  go_enter Try.func93, Try.ntmps93
  go_wp2
  go_ret
  exact ⟨rfl, rfl⟩
theorem prefix_any (s : ByteArray) (hs : s.size = 16) (w : World) : Calls Try.prog 66 #[.string s, .string gB] w fun e w' => e = .returned (.bool ((s.extract 0 4).toList == gB.toList)) ∧ w = w' := by
  have H := Lib.hid (prefix_in s hs w)
  clear hs
  go_enter Try.func66, Try.ntmps66
  go_wp2_with (fail)
  refine H.out.mono ?_
  rintro e w' ⟨rfl, rfl⟩
  go_wp2_with (fail)
  go_ret
  exact ⟨rfl, rfl⟩
end Go.Proofs.Ytcphcgkbjlgkiaa

namespace Go.Proofs.Ytcphcgkbjlgkiaa
open Go.RowKit

/-- The stamp in a server's cookie. -/
def stampN (s : List UInt8) : Nat := beN ((s.drop 4).take 4)
/-- Verify's answer. -/
def verR (i : Bool) (xs : List Entry) (sn sw : ByteArray) (c : List UInt8) (s : List UInt8) (a : Nat) (now : Int) : Bool × Int :=
  if c.length ≠ 8 then (false, 2) else if s = [] then (false, 3) else if s.length ≠ 16 ∨ s.take 4 ≠ [1, 0, 0, 0] then (false, 2) else
  if freshN now (stampN s) ≠ 0 then (false, 10) else
  if cookE sn c a (stampN s) = 0 ∧ cookL i xs sn c a (stampN s) = s then (decide (1800 < s32 (now - stampN s)), 0) else
  if cookE sw c a (stampN s) = 0 ∧ cookL i xs sw c a (stampN s) = s then (true, 0) else (false, 6)
theorem stampN_lt (s : List UInt8) : stampN s < 4294967296 := by
  unfold stampN
  have := beN_lt ((s.drop 4).take 4)
  exact Nat.lt_of_lt_of_le this (Nat.le_trans (Nat.pow_le_pow_right (by decide) (by rw [List.length_take]; exact Nat.min_le_left 4 _)) (by decide))

def VerPost (r : Bool × Int) (w : World) (e : Ending) (w' : World) : Prop := e = .returned (.tuple #[.bool r.1, .int .i64 r.2]) ∧ Below w.heap.size w w'

theorem box2_below (w : World) (o p : Obj) : Below w.heap.size w ((w.alloc o).alloc p) := ((Below.refl _ _).alloc (Nat.le_refl _) _).alloc (by simp) _

set_option maxRecDepth 100000 in
set_option maxHeartbeats 1000000 in
theorem Verify_early (i : Bool) (A : Option Addr) (m n : Nat) (sn sw c s : ByteArray) (a : Nat) (now : Int) (hcm : c.size ≤ maxLen) (hsm : s.size ≤ maxLen)
    (h : c.size ≠ 8 ∨ (c.size = 8 ∧ s.data.toList = []) ∨ (c.size = 8 ∧ s.data.toList ≠ [] ∧ s.size ≠ 16)) (w : World) :
    Calls Try.prog 35 #[.agg #[.bool i, .slice A m n], .agg #[.string sn, .string sw], .string c, .string s, .int .u32 (a : Int), .int .i64 now] w
      (VerPost (if c.size ≠ 8 then (false, 2) else if s.data.toList = [] then (false, 3) else (false, 2)) w) := by
  unfold maxLen at hcm hsm
  rcases h with h | ⟨h, h2⟩ | ⟨h, h2, h3⟩
  · rw [if_pos h]
    have h8 : ((c.size : Int) != 8) = true := by simp only [bne_iff_ne, ne_eq]; omega
    clear h
    go_enter Try.func35, Try.ntmps35
    go_wp2_with (fail)
    go_ret2
    exact ⟨rfl, box2_below _ _ _⟩
  · rw [if_neg (by omega), if_pos h2]
    have h8 : ((c.size : Int) != 8) = false := by simp [h]
    have he : s.toList = [] := by rw [ByteArray.toList_eq]; exact h2
    have he2 : s.toList.isEmpty = true := by rw [he]; rfl
    clear h h2
    go_enter Try.func35, Try.ntmps35
    go_wp2_with (fail)
    go_ret2
    exact ⟨rfl, box2_below _ _ _⟩
  · rw [if_neg (by omega), if_neg h2]
    have h8 : ((c.size : Int) != 8) = false := by simp [h]
    have he : ¬ s.toList = [] := by rw [ByteArray.toList_eq]; exact h2
    have he2 : s.toList.isEmpty = false := by simpa using he
    have h16 : ((s.size : Int) != 16) = true := by simp only [bne_iff_ne, ne_eq]; omega
    clear h h2 h3
    go_enter Try.func35, Try.ntmps35
    go_wp2_with (fail)
    go_ret2
    exact ⟨rfl, box2_below _ _ _⟩

theorem extract_list (s : ByteArray) (a b : Nat) (h : b ≤ s.size) : (s.extract a b).data.toList = (s.data.toList.drop a).take (b - a) := by
  rw [ByteArray.data_extract, Array.toList_extract, List.extract_eq_take_drop]

set_option maxRecDepth 100000 in
set_option maxHeartbeats 1000000 in
theorem Verify_form (i : Bool) (A : Option Addr) (m n : Nat) (sn sw c s : ByteArray) (a : Nat) (now : Int) (hc : c.size = 8) (hs : s.size = 16) (hp : s.data.toList.take 4 ≠ [1, 0, 0, 0]) (w : World) :
    Calls Try.prog 35 #[.agg #[.bool i, .slice A m n], .agg #[.string sn, .string sw], .string c, .string s, .int .u32 (a : Int), .int .i64 now] w (VerPost (false, 2) w) := by
  have h8 : ((c.size : Int) != 8) = false := by simp [hc]
  have hne : s.data.toList ≠ [] := by
    intro h
    have e : s.data.toList.length = s.size := by simp
    rw [h, hs] at e
    simp at e
  have he : ¬ s.toList = [] := by rw [ByteArray.toList_eq]; exact hne
  have he2 : s.toList.isEmpty = false := by simpa using he
  have h16 : ((s.size : Int) != 16) = false := by simp [hs]
  have hP := fun W => prefix_any s hs W
  rw [show ((s.extract 0 4).toList == gB.toList) = false by
    rw [ByteArray.toList_eq, ByteArray.toList_eq, extract_list s 0 4 (by omega)]
    simpa [gB] using hp] at hP
  have HP := Lib.hid hP
  have hcm : (c.size : Int) ≤ 9223372036854775807 := by omega
  have hsm : (s.size : Int) ≤ 9223372036854775807 := by omega
  clear hc hs hp hne hP
  go_enter Try.func35, Try.ntmps35
  go_wp2_with (fail)
  refine (HP.out _).mono ?_
  rintro e w' ⟨rfl, rfl⟩
  go_wp2_with (fail)
  go_ret2
  exact ⟨rfl, box2_below _ _ _⟩

set_option maxRecDepth 100000 in
set_option maxHeartbeats 4000000 in
theorem Verify_main (i : Bool) (xs : List Entry) (A : Option Addr) (n : Nat) (sn sw c s : ByteArray) (a : Nat) (now : Int) (hc : c.size = 8) (hs : s.size = 16) (hp : s.data.toList.take 4 = [1, 0, 0, 0]) (ha : a < 4294967296) (hsn : sn.size ≤ 9223372036854775807) (hsw : sw.size ≤ 9223372036854775807) (w : World) (hT : Tab w A xs) (hbig : xs.length ≤ 9223372036854775807) :
    Calls Try.prog 35 #[.agg #[.bool i, .slice A xs.length n], .agg #[.string sn, .string sw], .string c, .string s, .int .u32 (a : Int), .int .i64 now] w (VerPost (if freshN now (stampN s.data.toList) ≠ 0 then (false, 10) else
  if cookE sn c.data.toList a (stampN s.data.toList) = 0 ∧ cookL i xs sn c.data.toList a (stampN s.data.toList) = s.data.toList then (decide (1800 < s32 (now - stampN s.data.toList)), 0) else
  if cookE sw c.data.toList a (stampN s.data.toList) = 0 ∧ cookL i xs sw c.data.toList a (stampN s.data.toList) = s.data.toList then (true, 0) else (false, 6)) w) := by
  have h8 : ((c.size : Int) != 8) = false := by simp [hc]
  have hne : s.data.toList ≠ [] := by
    intro h
    have e : s.data.toList.length = s.size := by simp
    rw [h, hs] at e
    simp at e
  have he : ¬ s.toList = [] := by rw [ByteArray.toList_eq]; exact hne
  have he2 : s.toList.isEmpty = false := by simpa using he
  have h16 : ((s.size : Int) != 16) = false := by simp [hs]
  have hP := fun W => prefix_any s hs W
  rw [show ((s.extract 0 4).toList == gB.toList) = true by
    rw [ByteArray.toList_eq, ByteArray.toList_eq, extract_list s 0 4 (by omega)]
    simpa [gB] using hp] at hP
  have HP := Lib.hid hP
  have hcm : (c.size : Int) ≤ 9223372036854775807 := by omega
  have hsm : (s.size : Int) ≤ 16 := by omega
  have hsn8 : 8 ≤ s.size := by omega
  have hsi8 : (8 : Int) ≤ (s.size : Int) := by omega
  have hst := stampN_lt s.data.toList
  have hx8 : (s.extract 4 8).size = 4 := by simp; omega
  have hRd : ∀ W, Rd W W.heap.size (s.extract 4 8) 0 false → True := fun _ _ => trivial
  have hNum := Lib.hid (fun (W : World) (b : Nat) (h : Rd W b (s.extract 4 8) 0 false) => by
    have := rNum_yes h 4 (by omega) (by rw [hx8]; unfold maxLen; omega) (by rw [hx8]; omega)
    rw [show beN ((s.extract 4 8).extract 0 (0 + 4)).data.toList = stampN s.data.toList by
      rw [extract_list _ _ _ (by rw [hx8]; omega), extract_list _ _ _ (by omega)]
      unfold stampN
      simp [List.take_take]] at this
    exact this)
  generalize stampN s.data.toList = at' at hNum hst ⊢
  have hCk := fun (k : ByteArray) hk W hT => cookie_any i xs A n k c a at' ha hst hk (by omega) W hT hbig
  have HFr := Lib.hid (fun W => fresh_any now (at' : Int) W)
  have HRe := Lib.hid (fun W => renew_any now (at' : Int) W)
  have HC1 := Lib.hid (hCk sn hsn)
  have HC2 := Lib.hid (hCk sw hsw)
  generalize cookE sn c.data.toList a at' = y1 at HC1 ⊢
  generalize cookE sw c.data.toList a at' = y2 at HC2 ⊢
  generalize cookL i xs sn c.data.toList a at' = z1 at HC1 ⊢
  obtain ⟨Z1, hZ1⟩ : ∃ Z : ByteArray, (⟨z1.toArray⟩ : ByteArray) = Z := ⟨_, rfl⟩
  rw [hZ1] at HC1
  obtain rfl : z1 = Z1.data.toList := by rw [← hZ1]
  clear hZ1
  generalize cookL i xs sw c.data.toList a at' = z2 at HC2 ⊢
  obtain ⟨Z2, hZ2⟩ : ∃ Z : ByteArray, (⟨z2.toArray⟩ : ByteArray) = Z := ⟨_, rfl⟩
  rw [hZ2] at HC2
  obtain rfl : z2 = Z2.data.toList := by rw [← hZ2]
  clear hZ2
  generalize freshN now at' = fr at HFr ⊢
  generalize decide (1800 < s32 (now - at')) = re at HRe ⊢
  obtain ⟨r, hr⟩ : ∃ r, (if fr ≠ 0 then (false, 10) else if y1 = 0 ∧ Z1.data.toList = s.data.toList then (re, 0) else if y2 = 0 ∧ Z2.data.toList = s.data.toList then (true, 0) else (false, (6 : Int))) = r := ⟨_, rfl⟩
  rw [hr]
  have HRes := Lib.hid hr
  clear hr
  have hB0 : Blk ((w.alloc (.cells #[.bool i, .slice A xs.length n] 27)).alloc (.cells #[.string sn, .string sw] 59)) w.heap.size 27 #[.bool i, .slice A xs.length n] := (Blk.new w _ _).alloc _
  have hB1 : Blk ((w.alloc (.cells #[.bool i, .slice A xs.length n] 27)).alloc (.cells #[.string sn, .string sw] 59)) (w.heap.size + 1) 59 #[.string sn, .string sw] := by
    have := Blk.new (w.alloc (.cells #[.bool i, .slice A xs.length n] 27)) 59 #[.string sn, .string sw]
    rw [World.size_alloc] at this
    exact this
  have hb0 := box2_below w (.cells #[.bool i, .slice A xs.length n] 27) (.cells #[.string sn, .string sw] 59)
  have H0 := Lib.hid (And.intro hB0 (And.intro hB1 (And.intro hb0 (hT.below hb0))))
  have hati : (at' : Int) ≤ 4294967295 := by omega
  clear hc hs hp hne hP hRd hCk hB0 hB1 hb0 hT ha hsn hsw hbig hx8 hst
  go_enter Try.func35, Try.ntmps35
  go_wp2_with (fail)
  refine (HP.out _).mono ?_
  rintro e w' ⟨rfl, rfl⟩
  go_wp2_with (fail)
  refine (rOpen_any _ _).mono ?_
  rintro e w2 ⟨rfl, hR, hb2⟩
  obtain ⟨hB0, hB1, hb0, hT⟩ := H0.out
  obtain ⟨V, hV⟩ : ∃ V, ((w.alloc (.cells #[.bool i, .slice A xs.length n] 27)).alloc (.cells #[.string sn, .string sw] 59)) = V := ⟨_, rfl⟩
  rw [hV] at hb2 hB0 hB1 hb0 hT hR
  have hVs : V.heap.size = w.heap.size + 1 + 1 := by rw [← hV]; simp
  have hbV := Lib.hid (And.intro hB0 (And.intro hB1 (And.intro hb0 (And.intro hT (And.intro hb2 hVs)))))
  rw [hVs] at hR
  have HN := Lib.hid (hNum.out _ _ hR)
  clear hB0 hB1 hb0 hT hV H0 hNum hR hb2 hVs
  go_wp2_with (fail)
  refine HN.out.mono ?_
  rintro e w3 ⟨rfl, hR3, hBt⟩
  have hall : Blk w3 w.heap.size 27 #[.bool i, .slice A xs.length n] ∧ Blk w3 (w.heap.size + 1) 59 #[.string sn, .string sw] ∧ Below w.heap.size w w3 ∧ Tab w3 A xs := by
    obtain ⟨hB0, hB1, hb0, hT, hb2, hVs⟩ := hbV.out
    have hz := hb2.size
    have h3 : Below V.heap.size V w3 := hb2.trans (hBt.below (by omega) (by omega))
    exact ⟨hB0.below h3 hB0.lt, hB1.below h3 hB1.lt, hb0.trans (h3.mono hb0.size), hT.below h3⟩
  have HALL := Lib.hid hall
  clear hR3 hBt HN hbV hall
  go_wp2_with (fail)
  refine (HFr.out _).mono ?_
  rintro e w4 ⟨rfl, rfl⟩
  by_cases hf : fr = 0
  · subst hf
    obtain ⟨hB0, hB1, hb0, hT⟩ := HALL.out
    have c0 := hB0.cell 0
    have c1 := hB0.cell 1
    have d0 : w3.cell? ⟨w.heap.size + 1, 0, none⟩ = some (.string sn) := hB1.cell 0
    have d1 : w3.cell? ⟨w.heap.size + 1, 1, none⟩ = some (.string sw) := hB1.cell 1
    simp at c0 c1
    clear hB0 hB1 hb0 hT
    go_wp2_with (fail)
    have i0 : ∀ W : World, (Instr.index 115 (.agg #[.string sn, .string sw]) (.int .i64 0)).run Try.prog W = .ok (.string sn) W := fun _ => by kernel_rfl
    have i1 : ∀ W : World, (Instr.index 115 (.agg #[.string sn, .string sw]) (.int .i64 1)).run Try.prog W = .ok (.string sw) W := fun _ => by kernel_rfl
    clear c0 c1 d0 d1
    go_loopg [46] 2 (fun g s46 wr => ∃ j : Nat, g + j = 2 ∧ s46 = .int .i64 (j : Int) ∧ Aside (1 ≤ j → ¬ (y1 = 0 ∧ Z1.data.toList = s.data.toList)) ∧ Aside (2 ≤ j → ¬ (y2 = 0 ∧ Z2.data.toList = s.data.toList)) ∧ Aside (Blk wr w.heap.size 27 #[.bool i, .slice A xs.length n] ∧ Below w.heap.size w wr ∧ Tab wr A xs))
    case atStart =>
      exact ⟨0, by omega, rfl, fun h => absurd h (by omega), fun h => absurd h (by omega), HALL.out.1, HALL.out.2.2.1, HALL.out.2.2.2⟩
    case round =>
      obtain ⟨j, hj, rfl, n1, n2, hW⟩ := hrel
      have c0 := hW.out.1.cell 0
      have c1 := hW.out.1.cell 1
      simp at c0 c1
      have hj3 : j = 0 ∨ j = 1 ∨ j = 2 := by omega
      rcases hj3 with rfl | rfl | rfl
      · have hc1 := HC1.out _ hW.out.2.2
        have HCa := Lib.hid hc1
        have hz : (y1 == 0) = false ∨ ((y1 == 0) = true ∧ (Z1.toList == s.toList) = false) ∨ ((y1 == 0) = true ∧ (Z1.toList == s.toList) = true) := by
          cases (y1 == 0) <;> cases (Z1.toList == s.toList) <;> simp
        have hM : (y1 = 0 ∧ Z1.data.toList = s.data.toList) ↔ ((y1 == 0) = true ∧ (Z1.toList == s.toList) = true) := by
          rw [ByteArray.toList_eq, ByteArray.toList_eq]; simp
        have HM := Lib.hid hM
        clear hc1 hM n1 n2
        rcases hz with hz | ⟨hz, hz2⟩ | ⟨hz, hz2⟩
        · have hno : ¬ (y1 = 0 ∧ Z1.data.toList = s.data.toList) := fun h => by have := HM.out.1 h; rw [hz] at this; cases this.1
          have HNO := Lib.hid hno
          clear hno
          go_wp2_with (fail)
          refine HCa.out.mono ?_
          rintro e w5 ⟨rfl, hb5⟩
          have H5 := Lib.hid (And.intro (hW.out.1.below hb5 hW.out.1.lt) (And.intro (hW.out.2.1.trans (hb5.mono hW.out.2.1.size)) (hW.out.2.2.below hb5)))
          clear hb5
          go_wp2_with (fail)
          go_roundg 1
          case measure => omega
          case rel => exact ⟨1, by omega, by first | rfl | go_num, fun _ => HNO.out, fun h => absurd h (by omega), H5.out⟩
        · have hno : ¬ (y1 = 0 ∧ Z1.data.toList = s.data.toList) := fun h => by have := HM.out.1 h; rw [hz2] at this; cases this.2
          have HNO := Lib.hid hno
          clear hno
          go_wp2_with (fail)
          refine HCa.out.mono ?_
          rintro e w5 ⟨rfl, hb5⟩
          have H5 := Lib.hid (And.intro (hW.out.1.below hb5 hW.out.1.lt) (And.intro (hW.out.2.1.trans (hb5.mono hW.out.2.1.size)) (hW.out.2.2.below hb5)))
          clear hb5
          go_wp2_with (fail)
          go_roundg 1
          case measure => omega
          case rel => exact ⟨1, by omega, by first | rfl | go_num, fun _ => HNO.out, fun h => absurd h (by omega), H5.out⟩
        · have HY := Lib.hid (HM.out.2 ⟨hz, hz2⟩)
          go_wp2_with (fail)
          refine HCa.out.mono ?_
          rintro e w5 ⟨rfl, hb5⟩
          have H5 := Lib.hid (hW.out.2.1.trans (hb5.mono hW.out.2.1.size))
          clear hb5
          go_wp2_with (fail)
          refine (HRe.out _).mono ?_
          rintro e w6 ⟨rfl, rfl⟩
          go_wp2_with (fail)
          go_ret2
          have hr := HRes.out
          rw [if_neg (by simp), if_pos HY.out] at hr
          rw [← hr]
          exact ⟨rfl, H5.out⟩
      · have hc2 := HC2.out _ hW.out.2.2
        have HCa := Lib.hid hc2
        have hz : (y2 == 0) = false ∨ ((y2 == 0) = true ∧ (Z2.toList == s.toList) = false) ∨ ((y2 == 0) = true ∧ (Z2.toList == s.toList) = true) := by
          cases (y2 == 0) <;> cases (Z2.toList == s.toList) <;> simp
        have hM : (y2 = 0 ∧ Z2.data.toList = s.data.toList) ↔ ((y2 == 0) = true ∧ (Z2.toList == s.toList) = true) := by
          rw [ByteArray.toList_eq, ByteArray.toList_eq]; simp
        have HM := Lib.hid hM
        clear hc2 hM n2
        rcases hz with hz | ⟨hz, hz2⟩ | ⟨hz, hz2⟩
        · have hno : ¬ (y2 = 0 ∧ Z2.data.toList = s.data.toList) := fun h => by have := HM.out.1 h; rw [hz] at this; cases this.1
          have HNO := Lib.hid hno
          clear hno
          go_wp2_with (fail)
          refine HCa.out.mono ?_
          rintro e w5 ⟨rfl, hb5⟩
          have H5 := Lib.hid (And.intro (hW.out.1.below hb5 hW.out.1.lt) (And.intro (hW.out.2.1.trans (hb5.mono hW.out.2.1.size)) (hW.out.2.2.below hb5)))
          clear hb5
          go_wp2_with (fail)
          go_roundg 0
          case measure => omega
          case rel => exact ⟨2, by omega, by first | rfl | go_num, fun _ => n1.out (by omega), fun _ => HNO.out, H5.out⟩
        · have hno : ¬ (y2 = 0 ∧ Z2.data.toList = s.data.toList) := fun h => by have := HM.out.1 h; rw [hz2] at this; cases this.2
          have HNO := Lib.hid hno
          clear hno
          go_wp2_with (fail)
          refine HCa.out.mono ?_
          rintro e w5 ⟨rfl, hb5⟩
          have H5 := Lib.hid (And.intro (hW.out.1.below hb5 hW.out.1.lt) (And.intro (hW.out.2.1.trans (hb5.mono hW.out.2.1.size)) (hW.out.2.2.below hb5)))
          clear hb5
          go_wp2_with (fail)
          go_roundg 0
          case measure => omega
          case rel => exact ⟨2, by omega, by first | rfl | go_num, fun _ => n1.out (by omega), fun _ => HNO.out, H5.out⟩
        · have HY := Lib.hid (HM.out.2 ⟨hz, hz2⟩)
          go_wp2_with (fail)
          refine HCa.out.mono ?_
          rintro e w5 ⟨rfl, hb5⟩
          have H5 := Lib.hid (hW.out.2.1.trans (hb5.mono hW.out.2.1.size))
          clear hb5
          go_wp2_with (fail)
          go_ret2
          have hr := HRes.out
          rw [if_neg (by simp), if_neg (n1.out (by omega)), if_pos HY.out] at hr
          rw [← hr]
          exact ⟨rfl, H5.out⟩
      · have m1 := n1.out (by omega)
        have m2 := n2.out (by omega)
        have HM := Lib.hid (And.intro m1 m2)
        clear m1 m2 n1 n2
        go_wp2_with (fail)
        go_ret2
        have hr := HRes.out
        rw [if_neg (by simp), if_neg HM.out.1, if_neg HM.out.2] at hr
        rw [← hr]
        exact ⟨rfl, hW.out.2.1⟩
  · have hfi : (fr != 0) = true := by simpa using hf
    have HF := Lib.hid hf
    clear hf
    go_wp2_with (fail)
    go_ret2
    have hr := HRes.out
    rw [if_pos HF.out] at hr
    rw [← hr]
    exact ⟨rfl, HALL.out.2.2.1⟩

theorem Verify_any (i : Bool) (xs : List Entry) (A : Option Addr) (n : Nat) (sn sw c s : ByteArray) (a : Nat) (now : Int) (hcm : c.size ≤ maxLen) (hsm : s.size ≤ maxLen) (ha : a < 4294967296) (hsn : sn.size ≤ maxLen) (hsw : sw.size ≤ maxLen) (w : World) (hT : Tab w A xs) (hbig : xs.length ≤ 9223372036854775807) :
    Calls Try.prog 35 #[.agg #[.bool i, .slice A xs.length n], .agg #[.string sn, .string sw], .string c, .string s, .int .u32 (a : Int), .int .i64 now] w (VerPost (verR i xs sn sw c.data.toList s.data.toList a now) w) := by
  have hcl : c.data.toList.length = c.size := by simp
  have hsl : s.data.toList.length = s.size := by simp
  unfold verR
  rw [hcl, hsl]
  by_cases h8 : c.size ≠ 8
  · rw [if_pos h8]
    have := Verify_early i A xs.length n sn sw c s a now hcm hsm (.inl h8) w
    rw [if_pos h8] at this
    exact this
  · rw [if_neg h8]
    have h8' : c.size = 8 := by omega
    by_cases he : s.data.toList = []
    · rw [if_pos he]
      have := Verify_early i A xs.length n sn sw c s a now hcm hsm (.inr (.inl ⟨h8', he⟩)) w
      rw [if_neg h8, if_pos he] at this
      exact this
    · rw [if_neg he]
      by_cases h16 : s.size = 16
      · by_cases hp : s.data.toList.take 4 = [1, 0, 0, 0]
        · rw [if_neg (by rintro (h | h); exact h h16; exact h hp)]
          exact Verify_main i xs A n sn sw c s a now h8' h16 hp ha (by unfold maxLen at hsn; omega) (by unfold maxLen at hsw; omega) w hT hbig
        · rw [if_pos (.inr hp)]
          exact Verify_form i A xs.length n sn sw c s a now h8' h16 hp w
      · rw [if_pos (.inl h16)]
        have := Verify_early i A xs.length n sn sw c s a now hcm hsm (.inr (.inr ⟨h8', he, h16⟩)) w
        rw [if_neg h8, if_neg he] at this
        exact this
end Go.Proofs.Ytcphcgkbjlgkiaa
