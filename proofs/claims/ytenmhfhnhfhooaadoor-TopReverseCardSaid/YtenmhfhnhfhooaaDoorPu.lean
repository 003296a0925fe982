/- strconv.ParseUint at base 10, eight bits, at right words, laid from the shelf. Conditions: none. -/
import Derived.Test.YtenmhfhnhfhooaaDoorShelfD
import Derived.Test.YtenmhfhnhfhooaaDoorChecked
import Derived.Test.YtenmhfhnhfhooaaDoorRet
import Derived.Shelf.Pu.ParseUintPublic10
import Derived.Lib.SmallJoins
import Derived.Lib.ItoaNum
namespace Go.Proofs.YtenmhfhnhfhooaaDoor
open Go.RowKit Go.Shelf

theorem digits_back {u : Nat} (h : u < 256) : Lib.parseUintB 8 (Lib.decDigits u) = .ok u := by
  have : ∀ u : Fin 256, (match Lib.parseUintB 8 (Lib.decDigits u.1) with | .ok v => v == u.1 | _ => false) = true := by decide +kernel
  have h1 := this ⟨u, h⟩
  simp only at h1
  split at h1
  · rename_i v hv
    rw [hv, eq_of_beq h1]
  · cases h1
theorem parse8_any (u : Nat) (h : u < 256) (w : World) :
    Calls Tryd.prog 32 #[.string ⟨(Lib.decDigits u).toArray⟩, .int .i64 10, .int .i64 8] w fun e w' => e = .returned (.tuple #[.int .u64 (u : Int), .nilIface]) ∧ Below w.heap.size w w' := by
  have hl : (Lib.decDigits u).length ≤ 3 := by
    have : ∀ u : Fin 256, (Lib.decDigits u.1).length ≤ 3 := by decide +kernel
    exact this ⟨u, h⟩
  refine (Any.strconv_ParseUint_10_at8_ok Tryd.puLays ⟨(Lib.decDigits u).toArray⟩ (by simp [ByteArray.size]; omega) u (digits_back h) w).mono ?_
  rintro e w' ⟨rfl, rfl | rfl⟩
  · exact ⟨rfl, Below.refl _ _⟩
  · exact ⟨rfl, Go.Joins.below_bytesWorld _ _ _ _ (Nat.le_refl _)⟩
end Go.Proofs.YtenmhfhnhfhooaaDoor
