/- The law MixBack, walked; hardtacklaw41.lives. -/
import Derived.Test.YtenmhfhnhfhooaaDoorMixW
import Derived.Test.YtenmhfhnhfhooaaDoorMixLaw
namespace Go.Proofs.YtenmhfhnhfhooaaDoor
open Go.RowKit

theorem mix_ok (s : ByteArray) (d : Nat) (hd : d ≤ 18446744073709551615) (hs : s.size ≤ maxLen) (hn : isName s.data.toList = true) (w : World) :
    Calls Tryd.prog 6 #[.string s, .int .u64 (d : Int)] w fun e w' => e = .returned (.tuple #[.string ⟨(mixL d s.data.toList).toArray⟩, .int .i64 0]) ∧ Below w.heap.size w w' :=
  callsIn_wide.1 (Mix_in 4 (Nat.le_refl _) s d hd hs hn w)
theorem mix_no (s : ByteArray) (d : Nat) (hs : s.size ≤ maxLen) (hn : isName s.data.toList = false) (w : World) :
    Calls Tryd.prog 6 #[.string s, .int .u64 (d : Int)] w fun e w' => e = .returned (.tuple #[.string ⟨#[]⟩, .int .i64 2]) ∧ Below w.heap.size w w' :=
  callsIn_wide.1 (Mix_bad 4 (Nat.le_refl _) s d hs hn w)
theorem letters_any (s : ByteArray) (hs : s.size ≤ maxLen) (w : World) :
    Calls Tryd.prog 10 #[.string s] w fun e w' => e = .returned (.int .i64 ((letL s.data.toList).length : Int)) ∧ Below w.heap.size w w' :=
  callsIn_wide.1 (Letters_in 4 (Nat.le_refl _) s hs w)
def nmA : ByteArray := ⟨#[3, 97, 66, 49, 1, 99, 0]⟩
def nmB : ByteArray := ⟨#[3, 65, 98, 49, 1, 67, 0]⟩
def nmC : ByteArray := ⟨#[3, 97, 98, 49, 1, 99, 0]⟩
def nm0 : ByteArray := ⟨#[]⟩
theorem M1 (w : World) : Calls Tryd.prog 6 #[.string nmA, .int .u64 5] w fun e w' => e = .returned (.tuple #[.string ⟨#[3, 65, 98, 49, 1, 67, 0]⟩, .int .i64 0]) ∧ Below w.heap.size w w' := by
  have := mix_ok nmA 5 (by omega) (by decide) (by decide) w
  rw [show (mixL 5 nmA.data.toList).toArray = #[3, 65, 98, 49, 1, 67, 0] by decide] at this
  exact this
theorem M2 (w : World) : Calls Tryd.prog 6 #[.string nm0, .int .u64 1] w fun e w' => e = .returned (.tuple #[.string ⟨#[]⟩, .int .i64 2]) ∧ Below w.heap.size w w' :=
  mix_no nm0 1 (by decide) (by decide) w
theorem M3 (w : World) : Calls Tryd.prog 10 #[.string nmB] w fun e w' => e = .returned (.int .i64 3) ∧ Below w.heap.size w w' := by
  have := letters_any nmB (by decide) w
  rw [show (letL nmB.data.toList).length = 3 by decide] at this
  exact this
theorem M5 (w : World) : Calls Tryd.prog 11 #[.string nmB, .string nmB] w fun e w' => e = .returned (.bool true) ∧ Below w.heap.size w w' := by
  have := Exact_any nmB nmB (by decide) w
  rw [show ((nmB.toList == nmB.toList) && isName nmB.data.toList) = true by rw [beq_self_eq_true]; decide] at this
  exact this
theorem M6 (w : World) : Calls Tryd.prog 11 #[.string nmB, .string nmC] w fun e w' => e = .returned (.bool false) ∧ Below w.heap.size w w' := by
  have := Exact_any nmB nmC (by decide) w
  rw [show ((nmB.toList == nmC.toList) && isName nmB.data.toList) = false by rw [ByteArray.toList_eq, ByteArray.toList_eq]; decide] at this
  exact this
theorem M7 (w : World) : Calls Tryd.prog 11 #[.string nm0, .string nm0] w fun e w' => e = .returned (.bool false) ∧ Below w.heap.size w w' := by
  have := Exact_any nm0 nm0 (by decide) w
  rw [show ((nm0.toList == nm0.toList) && isName nm0.data.toList) = false by rw [beq_self_eq_true]; decide] at this
  exact this

end Go.Proofs.YtenmhfhnhfhooaaDoor
