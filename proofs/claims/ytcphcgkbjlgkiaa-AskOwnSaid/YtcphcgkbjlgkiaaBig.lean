/- The bytes of a number, the highest first; plain, no program in sight. Conditions: none. -/
import Derived.Test.YtcphcgkbjlgkiaaRet
namespace Go.Proofs.Ytcphcgkbjlgkiaa

/-- Byte i of eight, the highest first. -/
def bigI (n i : Nat) : UInt8 := UInt8.ofNat (n / 256 ^ (7 - i) % 256)
/-- The lowest k bytes of a number, the highest first. -/
def bigB (n k : Nat) : List UInt8 := (List.range k).map fun i => bigI n (8 - k + i)
theorem bigB_length (n k : Nat) : (bigB n k).length = k := by simp [bigB]
theorem bigI_toNat (n i : Nat) : (bigI n i).toNat = n / 256 ^ (7 - i) % 256 := by unfold bigI; rw [UInt8.toNat_ofNat']; omega
theorem bigB_get {n k j : Nat} (h : j < k) : (bigB n k)[j]? = some (bigI n (8 - k + j)) := by
  unfold bigB; rw [List.getElem?_map, List.getElem?_range h]; rfl
/-- Eight cells, the first k of which hold the bytes. -/
def bigC (n k : Nat) : Array Value := Array.ofFn fun i : Fin 8 => if i.val < k then b8 (bigI n i.val) else .int .u8 0
theorem bigC_set (n k : Nat) : (bigC n k).setIfInBounds k (b8 (bigI n k)) = bigC n (k + 1) := by
  unfold bigC
  apply Array.ext
  · simp
  · intro i h1 h2
    simp only [Array.size_setIfInBounds, Array.size_ofFn] at h1 h2
    rw [Array.getElem_setIfInBounds (by simpa using h1)]
    simp only [Array.getElem_ofFn]
    by_cases h : k = i
    · subst h; simp
    · rw [if_neg h]
      by_cases h3 : i < k
      · rw [if_pos h3, if_pos (by omega)]
      · rw [if_neg h3, if_neg (by omega)]
theorem bigC_zero (n : Nat) : bigC n 0 = #[.int .u8 0, .int .u8 0, .int .u8 0, .int .u8 0, .int .u8 0, .int .u8 0, .int .u8 0, .int .u8 0] := by
  unfold bigC; rfl
theorem big_pow (k : Nat) : (256 : Nat) ^ k = 2 ^ (8 * k) := by rw [Nat.pow_mul]
theorem big_byte (n k : Nat) (hk : k < 8) : ((n : Int) / 2 ^ (56 - 8 * k)) % 256 = ((bigI n k).toNat : Int) := by
  rw [bigI_toNat, big_pow, Int.natCast_emod, Int.natCast_ediv, Int.natCast_pow]
  have : 8 * (7 - k) = 56 - 8 * k := by omega
  rw [this]; rfl
end Go.Proofs.Ytcphcgkbjlgkiaa
