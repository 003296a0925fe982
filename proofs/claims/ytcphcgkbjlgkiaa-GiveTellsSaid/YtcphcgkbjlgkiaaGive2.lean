/- The walks of package give's Make, Verify and Roll. -/
import Derived.Test.YtcphcgkbjlgkiaaGive
namespace Go.Proofs.Ytcphcgkbjlgkiaa
open Go.RowKit

theorem of_at (t : Int) (s : Nat) (h : t % 4294967296 = (s : Int)) (w : World) : Calls Try.prog 63 #[.int .i64 t] w fun e w' => e = .returned (.int .u32 (s : Int)) ∧ Below w.heap.size w w' := by
  have := of_any t w
  rw [h] at this
  exact this.mono fun e w' ⟨he, hw⟩ => ⟨he, below_eq hw⟩

set_option maxRecDepth 100000 in
set_option maxHeartbeats 1000000 in
theorem Make_no (i : Bool) (A : Option Addr) (m n : Nat) (k c : ByteArray) (a : Nat) (now : Int) (hc : c.size ≠ 8) (hs : c.size ≤ maxLen) (w : World) :
    Calls Try.prog 33 #[.agg #[.bool i, .slice A m n], .string k, .string c, .int .u32 (a : Int), .int .i64 now] w fun e w' => e = .returned (.tuple #[.string ⟨#[]⟩, .int .i64 2]) ∧ Below w.heap.size w w' := by
  have h8 : ((c.size : Int) != 8) = true := by simp only [bne_iff_ne, ne_eq]; omega
  unfold maxLen at hs
  clear hc
  go_enter Try.func33, Try.ntmps33
  go_wp2_with (fail)
  go_ret2
  exact ⟨rfl, (Below.refl _ _).alloc (Nat.le_refl _) _⟩

set_option maxRecDepth 100000 in
set_option maxHeartbeats 2000000 in
theorem Make_yes (i : Bool) (xs : List Entry) (A : Option Addr) (n : Nat) (k c : ByteArray) (a : Nat) (now : Int) (s : Nat) (hs : now % 4294967296 = (s : Int)) (ha : a < 4294967296) (hk : k.size ≤ 9223372036854775807) (hc : c.size = 8) (w : World) (hT : Tab w A xs) (hbig : xs.length ≤ 9223372036854775807) :
    Calls Try.prog 33 #[.agg #[.bool i, .slice A xs.length n], .string k, .string c, .int .u32 (a : Int), .int .i64 now] w fun e w' => e = .returned (.tuple #[.string ⟨(cookL i xs k c.data.toList a s).toArray⟩, .int .i64 (cookE k c.data.toList a s)]) ∧ Below w.heap.size w w' := by
  have h8 : ((c.size : Int) != 8) = false := by simp [hc]
  have hs32 : s < 4294967296 := by omega
  have hB0 : Blk (w.alloc (.cells #[.bool i, .slice A xs.length n] 27)) w.heap.size 27 #[.bool i, .slice A xs.length n] := Blk.new w _ _
  have hb0 : Below w.heap.size w (w.alloc (.cells #[.bool i, .slice A xs.length n] 27)) := (Below.refl _ _).alloc (Nat.le_refl _) _
  have HOf := Lib.hid (fun W => of_at now s hs W)
  have HCk := Lib.hid (fun W (hT : Tab W A xs) => cookie_any i xs A n k c a s ha hs32 hk (by omega) W hT hbig)
  generalize cookE k c.data.toList a s = y at HCk ⊢
  generalize cookL i xs k c.data.toList a s = z at HCk ⊢
  have H0 := Lib.hid (And.intro hB0 (And.intro hb0 (hT.below hb0)))
  have hB8 : (c.size : Int) ≤ 8 := by omega
  clear hs ha hk hc hT hbig hB0 hb0 hs32
  go_enter Try.func33, Try.ntmps33
  go_wp2_with (fail)
  obtain ⟨V, hV⟩ : ∃ V, w.alloc (.cells #[.bool i, .slice A xs.length n] 27) = V := ⟨_, rfl⟩
  rw [hV]
  obtain ⟨hB, hb0, hT⟩ := H0.out
  rw [hV] at hB hb0 hT
  have c0 : V.cell? ⟨w.heap.size, 0, none⟩ = some (.bool i) := hB.cell 0
  have c1 : V.cell? ⟨w.heap.size, 1, none⟩ = some (.slice A xs.length n) := hB.cell 1
  have hs0 := hB.lt
  have hrefl : Below V.heap.size V V := Below.refl _ _
  have JO := Lib.hid (fun (W : World) (h : Below V.heap.size V W) => HCk.out W (hT.below h))
  have HBV := Lib.hid hb0
  clear hB hT hb0 hV H0 HCk
  go_region_held3 (fun w' => w'.cell? ⟨w.heap.size, 0, none⟩ = some (.bool i) ∧ w'.cell? ⟨w.heap.size, 1, none⟩ = some (.slice A xs.length n) ∧ V.heap.size ≤ w'.heap.size ∧ Below V.heap.size V w')
    (first | assumption | exact ⟨c0, c1, Nat.le_refl _, hrefl⟩ | exact keep2D (by assumption) | exact keep2D ⟨c0, c1, Nat.le_refl _, hrefl⟩ | exact keep2C hs0 (by assumption) hb | exact keep2C hs0 (keep2D (by assumption)) hb | exact keep2C hs0 (keep2D ⟨c0, c1, Nat.le_refl _, hrefl⟩) hb | exact keep2C hs0 ⟨c0, c1, Nat.le_refl _, hrefl⟩ hb)
    (first
      | (go_at_call 63; refine (HOf.out _).mono ?_; rintro e w' ⟨rfl, hb⟩; have hbs := hb.size)
      | (go_at_call 62; refine (JO.out _ (last4 (by assumption))).mono ?_; rintro e w' ⟨rfl, hb⟩; have hbs := hb.size))
  have hbf : Below V.heap.size V w' := last4 (by assumption)
  have HBF := Lib.hid (HBV.out.trans (hbf.mono HBV.out.size))
  clear hbf c0 c1
  go_wp2_with (fail)
  go_ret2
  exact ⟨rfl, HBF.out⟩

theorem prefix_in (s : ByteArray) (hs : s.size = 16) (w : World) : Calls Try.prog 93 #[.string s, .string gB] w fun e w' => e = .returned (.bool ((s.extract 0 4).toList == gB.toList)) ∧ w = w' := by
  have h16 : (s.size : Int) = 16 := by omega
  have g4 : (gB.size : Int) = 4 := rfl
  clear hs
  go_enter Try.func93, Try.ntmps93
  go_wp2
  go_ret
  exact ⟨rfl, rfl⟩
theorem prefix_any (s : ByteArray) (hs : s.size = 16) (w : World) : Calls Try.prog 66 #[.string s, .string gB] w fun e w' => e = .returned (.bool ((s.extract 0 4).toList == gB.toList)) ∧ w = w' := by
  have H := Lib.hid (prefix_in s hs w)
  clear hs
  go_enter Try.func66, Try.ntmps66
  go_wp2_with (fail)
  refine H.out.mono ?_
  rintro e w' ⟨rfl, rfl⟩
  go_wp2_with (fail)
  go_ret
  exact ⟨rfl, rfl⟩
end Go.Proofs.Ytcphcgkbjlgkiaa
