/- The walks of package sip's Bytes and of its reference's. -/
import Derived.Test.YthjkdpphbipgfaaRet
import Derived.Test.YthjkdpphbipgfaaWord
import Derived.Laws.BytesString
import Derived.Laws.IdiomStrings
import Derived.OwnWalk
import Derived.Deep.LoopGhost
import Derived.Deep.Light
import Derived.Maps.AppendAt
namespace Go.Proofs.Ythjkdpphbipgfaa
open Go.RowKit

/-- Byte i of a number, the lowest first; so many of them. -/
def byteI (x : Nat) (i : Nat) : UInt8 := UInt8.ofNat (x / 256 ^ i % 256)
def bytesL (x k : Nat) : List UInt8 := (List.range k).map (byteI x)
theorem byteI_toNat (x i : Nat) : (byteI x i).toNat = x / 256 ^ i % 256 := by
  unfold byteI; rw [UInt8.toNat_ofNat']; omega
theorem bytesL_succ (x k : Nat) : bytesL x (k + 1) = bytesL x k ++ [byteI x k] := by
  unfold bytesL; rw [List.range_succ, List.map_append]; rfl
theorem bytesL_length (x k : Nat) : (bytesL x k).length = k := by simp [bytesL]

/-- Eight cells, the first k of which hold the bytes. -/
def cells8 (x k : Nat) : Array Value := Array.ofFn fun i : Fin 8 => if i.val < k then b8 (byteI x i.val) else .int .u8 0
theorem cells8_set (x k : Nat) : (cells8 x k).setIfInBounds k (b8 (byteI x k)) = cells8 x (k + 1) := by
  unfold cells8
  apply Array.ext
  · simp
  · intro i h1 h2
    simp only [Array.size_setIfInBounds, Array.size_ofFn] at h1 h2
    rw [Array.getElem_setIfInBounds (by simpa using h1)]
    simp only [Array.getElem_ofFn]
    by_cases h : k = i
    · subst h; simp
    · rw [if_neg h]
      by_cases h3 : i < k
      · rw [if_pos h3, if_pos (by omega)]
      · rw [if_neg h3, if_neg (by omega)]
theorem shr_byte (x k : Nat) : ((x : Int) / 2 ^ (8 * k)) % 256 = ((byteI x k).toNat : Int) := by
  rw [byteI_toNat, show (256 : Nat) ^ k = 2 ^ (8 * k) from pow256 k]
  rw [Int.natCast_emod, Int.natCast_ediv, Int.natCast_pow]; rfl

set_option maxHeartbeats 1000000 in
theorem bytes_any (x : Nat) (_hx1 : x ≤ 18446744073709551615) (w : World) : Calls Try.prog 35 #[.int .u64 (x : Int)] w fun e w' => e = .returned (.string ⟨(bytesL x 8).toArray⟩) ∧ Below w.heap.size w w' := by
  go_enter Try.func35, Try.ntmps35
  go_wp2
  go_loopg [4, 5] 8 (fun g c i wr => ∃ k : Nat, g + k = 8 ∧ i = .int .i64 (k : Int) ∧ Blk wr w.heap.size 128 (cells8 x k) ∧ Below w.heap.size w wr)
  case atStart => exact ⟨0, by omega, rfl, Blk.new w _ _, (Below.refl _ _).alloc (Nat.le_refl _) _⟩
  case round =>
    obtain ⟨k, hk, rfl, hB, hb⟩ := hrel
    have hfr := hB.frozen k
    by_cases hlt : k < 8
    · have hc : wr.cell? ⟨w.heap.size, k, none⟩ = some (if k < k then b8 (byteI x k) else .int .u8 0) := by
        rw [hB.cell k]; simp [cells8, hlt]
      have hc2 : ∃ v, wr.cell? ⟨w.heap.size, k, none⟩ = some v := ⟨_, hc⟩
      clear hc
      obtain ⟨v, hc⟩ := hc2
      go_wp2
      go_roundg (8 - (k + 1))
      case measure => omega
      case rel =>
        refine ⟨k + 1, by omega, by go_num, ?_, hb.setCell (Nat.le_refl _) _⟩
        have h1 := hB.set_ k (b8 (byteI x k))
        rw [cells8_set] at h1
        unfold b8 at h1
        rw [← shr_byte] at h1
        exact h1
    · obtain rfl : k = 8 := by omega
      have hcv := run_convert_bytes_back (P := Try.prog) wr 129 9 5 ⟨w.heap.size, 0, none⟩ 8 (bytesL x 8) Try.underlying129 Try.underlying5 Try.underlying9 (fun j hj => by
        have hj8 : j < 8 := by simpa [bytesL_length] using hj
        have : (⟨w.heap.size, 0, none⟩ : Addr).add j = ⟨w.heap.size, j, none⟩ := by unfold Addr.add; split <;> simp_all
        rw [this, hB.cell j]
        simp [cells8, hj8, bytesL, b8])
      rw [bytesL_length] at hcv
      go_wp2
      go_ret
      exact ⟨rfl, hb⟩

/-- An element type's own row of the program's table. -/
theorem info_u8 : (Try.prog.info? 5).map (fun i => (i.zero, i.size, i.bytes)) = some (some (.int .u8 0), 1, 1) := by kernel_rfl
theorem info_u64 : (Try.prog.info? 70).map (fun i => (i.zero, i.size, i.bytes)) = some (some (.int .u64 0), 1, 8) := by kernel_rfl

theorem div_byte (x k : Nat) : ((x / 256 ^ k : Nat) : Int) % 256 = ((byteI x k).toNat : Int) := by
  rw [byteI_toNat]; omega
theorem div_succ (x k : Nat) : ((x / 256 ^ k : Nat) : Int) / 256 = ((x / 256 ^ (k + 1) : Nat) : Int) := by
  rw [Nat.pow_succ, ← Nat.div_div_eq_div_mul]; omega
theorem own_ge {w : World} {base : Nat} {e : TypeId} {size : Nat} {v : Value} {n : Nat} {xs : List Value} (h : w.ownsRow base e size v n xs) : ∀ k, v.ownBlock = some k → base ≤ k := by
  intro k hk
  rcases h.2 with ⟨rfl, _⟩ | ⟨g, cap, cur, rfl, hg, _, _⟩
  · simp [Value.ownBlock] at hk
  · have : g = k := by simpa [Value.ownBlock] using hk
    omega
/-- What a row of the call's own holds, as the bytes that 'string' makes of it. -/
theorem own_bytes {P : Program} {w : World} {base : Nat} {e src dst : TypeId} {v : Value} {l : List UInt8} (hown : w.ownsRow base e 1 v l.length (l.map b8)) (hpos : 0 < l.length)
    (hs : P.underlying src = some (.slice e)) (he : P.underlying e = some (.int .u8)) (hd : P.underlying dst = some .string) :
    (convert src dst v).run P w = .ok (.string ⟨l.toArray⟩) w := by
  obtain ⟨g, cap, rfl, _, _⟩ := hown.form hpos
  refine run_convert_bytes_back w src dst e ⟨g, 0, none⟩ cap l hs he hd (fun j hj => ?_)
  exact hown.cells (g := g) rfl j _ (by simp [b8, hj])

end Go.Proofs.Ythjkdpphbipgfaa
