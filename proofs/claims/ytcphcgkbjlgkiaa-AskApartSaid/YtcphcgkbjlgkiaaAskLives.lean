/- hardtacklaw11.lives. -/
import Derived.Test.YtcphcgkbjlgkiaaWith
import Derived.Test.YtcphcgkbjlgkiaaAccept
import Derived.Test.YtcphcgkbjlgkiaaAskClient
import Derived.Test.YtcphcgkbjlgkiaaKeyedLives
namespace Go.Proofs.Ytcphcgkbjlgkiaa
open Go.RowKit Go.Lib

def tK : ByteArray := ⟨#[97, 115, 107, 1, 2, 3, 4]⟩
def eK : Entry := ⟨kK, tK, 65⟩
def cA : ByteArray := ⟨#[65, 0, 0, 0, 0, 0, 0, 0]⟩
def sX : ByteArray := ⟨#[115, 101, 114, 118, 101, 114, 120, 120]⟩
def c8 : ByteArray := ⟨#[49, 50, 51, 52, 53, 54, 55, 56]⟩
theorem putK : putE [] kK tK = 0 := by unfold putE; rw [show sumE kK.data.toList tK.data.toList = 0 by decide]; rfl
theorem isK1 : Entry.is kK (atext 16909060) eK = true := by rw [is_data]; decide +kernel
theorem clE1 : clE kK 16909060 = 0 := by decide +kernel
theorem clL1 : clL true [eK] kK 16909060 = cA.data.toList := by
  unfold clL clN ofN
  rw [if_pos clE1, if_pos ⟨clE1, rfl⟩]
  simp only [findN, List.find?_cons, isK1]
  decide +kernel
theorem putK_any (w : World) : Calls Try.prog 16 #[.agg #[.bool false, .slice none 0 0], .string kK, .string tK, .int .u64 65] w (PutGives [eK] 1 w) :=
  (put_any false [] none 0 kK tK 65 w (tab_nil _ _) (by decide) (by decide) (by decide) ⟨by decide, by decide⟩).mono fun _ _ h => putGives h putK rfl
theorem clientK (A : Option Addr) (n : Nat) (w : World) (hT : Tab w A [eK]) :
    Calls Try.prog 22 #[.agg #[.bool true, .slice A 1 n], .string kK, .int .u32 16909060] w fun e w' => e = .returned (.tuple #[.string cA, .int .i64 0]) ∧ Below w.heap.size w w' := by
  have := Client_any true [eK] A n kK 16909060 (by decide) (by decide) w hT (by decide)
  rw [clL1, clE1] at this
  exact this
def oK : List Opt := withO [] cA sX
theorem oK_find : oK.find? (Opt.is 10) = some ⟨10, cA ++ sX⟩ := rfl
theorem oK_ck : ckR oK = (cA, sX, 0) := by
  have h1 : ckC (cA ++ sX) = cA := by rw [ByteArray.ext_iff]; decide +kernel
  have h2 : ckS (cA ++ sX) = sX := by rw [ByteArray.ext_iff]; decide +kernel
  rw [ckR_of oK_find h1 h2]
  rfl
theorem acK1 : acR cA true (ckR oK) = (sX, 0) := by rw [oK_ck]; unfold acR; simp only [ByteArray.toList_eq]; decide
theorem acK2 : acR c8 false (ckR oK) = (⟨#[]⟩, 6) := by rw [oK_ck]; unfold acR; simp only [ByteArray.toList_eq]; decide
theorem acK3 : acR cA true (ckR []) = (⟨#[]⟩, 3) := by rfl
theorem acK4 : acR cA false (ckR []) = (⟨#[]⟩, 0) := by rfl
theorem accK {sent : ByteArray} {enf : Bool} {r : ByteArray × Int} (th : Bool) {xs : List Opt} (h : acR sent enf (ckR xs) = r) (A : Option Addr) (m : Nat) (w : World) (hT : OTab w A xs) (hn : xs.length ≤ 9223372036854775807) :
    Calls Try.prog 24 #[.string sent, .bool enf, .agg #[.bool th, .int .u16 0, .int .u8 0, .int .u8 0, .int .u16 0, .slice A xs.length m]] w fun e w' => e = .returned (.tuple #[.string r.1, .int .i64 r.2]) ∧ Below w.heap.size w w' := by
  have := Accept_any sent enf th 0 0 0 0 A xs m w hT hn
  rw [h] at this
  exact this
theorem otab_nil (w : World) : OTab w none [] := ⟨fun _ h => absurd h (by simp), fun h => absurd h (by simp)⟩

set_option maxHeartbeats 4000000 in
set_option maxRecDepth 100000 in
theorem lives11 (w : World) : Calls Try.prog 21 #[] w fun e w' => e = .returned (.bool true) ∧ Below w.heap.size w w' := by
  go_enter Try.func21, Try.ntmps21
  go_wp2_with (fail)
  refine (putK_any _).mono ?_
  rintro e w1 ⟨A, c, rfl, hT1, hb1⟩
  have S1 := Lib.hid (St.start (n := 1) (c := c) hT1 hb1)
  clear hT1 hb1
  go_wp2_with (fail)
  refine (clientK _ _ _ S1.out.1).mono ?_
  rintro e w2 ⟨rfl, hb⟩
  have B2 := Lib.hid (St.next S1.out hb).2.1
  clear hb
  go_wp2_with (fail)
  refine (With_yes false 0 0 0 0 none [] 0 cA sX (by decide) (by decide) w2 (otab_nil _) (by decide) (by decide)).mono ?_
  rintro e w3 ⟨A', m', rfl, hO, hb⟩
  rw [show withO [] cA sX = oK from rfl] at hO ⊢
  have B3 := Lib.hid (B2.out.trans (hb.mono B2.out.size))
  have hO3 := hO.below ((Below.refl _ _).alloc (Nat.le_refl _) (.cells #[.bool true, .int .u16 0, .int .u8 0, .int .u8 0, .int .u16 0, .slice A' oK.length m'] 43))
  have O3 := Lib.hid hO3
  clear hb hO hO3
  go_wp2_with (fail)
  refine (accK true acK1 A' m' _ O3.out (by decide)).mono ?_
  rintro e w4 ⟨rfl, hb⟩
  have B4 := Lib.hid ((B3.out.alloc B3.out.size _).trans (hb.mono (by have := B3.out.size; simp; omega)))
  have O4 := Lib.hid (O3.out.below hb)
  have Z4 := Lib.hid ((Blk.new w3 43 #[.bool true, .int .u16 0, .int .u8 0, .int .u8 0, .int .u16 0, .slice A' oK.length m']).below hb (by simp))
  have d0 := Z4.out.cell 0
  have d1 := Z4.out.cell 1
  have d2 := Z4.out.cell 2
  have d3 := Z4.out.cell 3
  have d4 := Z4.out.cell 4
  have d5 := Z4.out.cell 5
  have hl := Z4.out.lt
  clear hb
  go_wp2_with (fail)
  refine (accK true acK2 A' m' _ O4.out (by decide)).mono ?_
  rintro e w5 ⟨rfl, hb⟩
  have B5 := Lib.hid (B4.out.trans (hb.mono B4.out.size))
  clear hb d0 d1 d2 d3 d4 d5 hl
  go_wp2_with (fail)
  refine (accK (xs := []) false acK3 none 0 _ (otab_nil _) (by decide)).mono ?_
  rintro e w6 ⟨rfl, hb⟩
  have B6 := Lib.hid (B5.out.trans (hb.mono B5.out.size))
  clear hb
  go_wp2_with (fail)
  refine (accK (xs := []) false acK4 none 0 _ (otab_nil _) (by decide)).mono ?_
  rintro e w7 ⟨rfl, hb⟩
  have B7 := Lib.hid (B6.out.trans (hb.mono B6.out.size))
  clear hb
  have q1 : (cA.toList == [65, 0, 0, 0, 0, 0, 0, 0]) = true := by rw [ByteArray.toList_eq]; decide
  have q2 : (sX.toList == [115, 101, 114, 118, 101, 114, 120, 120]) = true := by rw [ByteArray.toList_eq]; decide
  go_wp2_with (fail)
  go_ret
  exact ⟨rfl, B7.out⟩
end Go.Proofs.Ytcphcgkbjlgkiaa
