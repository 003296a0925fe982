/- The walk of hardtackref30's Frame. -/
import Derived.Test.YtkdfbmbccopchaaStreamV
namespace Go.Proofs.Ytkdfbmbccopchaa
open Go.RowKit Go.Lib

set_option maxRecDepth 100000 in
set_option maxHeartbeats 2000000 in
theorem rFrame_any (s : ByteArray) (hs : s.size ≤ maxLen) (w : World) : Calls Try.prog 40 #[.string s] w fun e w' => e = .returned (.tuple #[.string (frameV s).1, .int .i64 (frameV s).2]) ∧ Below w.heap.size w w' := by
  unfold maxLen at hs
  have hsI : (s.size : Int) ≤ 9223372036854775807 := by omega
  by_cases h : 65535 < s.size
  · have hr : frameV s = (⟨#[]⟩, 7) := if_pos h
    have hI : (65535 : Int) < (s.size : Int) := by omega
    rw [hr]
    clear hr h hs
    go_enter Try.func40, Try.ntmps40
    go_wp2_with (fail)
    go_ret2
    exact ⟨rfl, Below.refl _ _⟩
  · have hr : frameV s = (⟨(hdM s.size ++ s.data.toList).toArray⟩, 0) := if_neg h
    have hI : ¬ (65535 : Int) < (s.size : Int) := by omega
    have h6 : (s.size : Int) ≤ 65535 := by omega
    rw [hr]
    have hcv : (convert 87 9 (.slice (some ⟨w.heap.size, 0, none⟩) 2 2)).run Try.prog (w.alloc (.cells #[.int .u8 ((s.size : Int) / 256), .int .u8 ((s.size : Int) % 256)] 5)) = .ok (.string ⟨(hdM s.size).toArray⟩) (w.alloc (.cells #[.int .u8 ((s.size : Int) / 256), .int .u8 ((s.size : Int) % 256)] 5)) := by
      refine run_convert_bytes_back (P := Try.prog) _ 87 9 5 ⟨w.heap.size, 0, none⟩ 2 (hdM s.size) Try.underlying87 Try.underlying5 Try.underlying9 (fun j hj => ?_)
      have ea : (⟨w.heap.size, 0, none⟩ : Addr).add j = ⟨w.heap.size, j, none⟩ := by unfold Addr.add; split <;> simp_all
      rw [ea, (Blk.new w 5 _).cell j]
      have hj2 : j < 2 := hj
      match j, hj2 with
      | 0, _ =>
        show some (Value.int .u8 ((s.size : Int) / 256)) = some (.int .u8 ((UInt8.ofNat (s.size / 256)).toNat : Int))
        rw [UInt8.toNat_ofNat', show s.size / 256 % 2 ^ 8 = s.size / 256 by omega]
        rfl
      | 1, _ =>
        show some (Value.int .u8 ((s.size : Int) % 256)) = some (.int .u8 ((UInt8.ofNat (s.size % 256)).toNat : Int))
        rw [UInt8.toNat_ofNat', show s.size % 256 % 2 ^ 8 = s.size % 256 by omega]
        rfl
    have hcs : (⟨(hdM s.size).toArray⟩ : ByteArray).size + s.size ≤ 9223372036854775807 := by show 2 + s.size ≤ _; omega
    clear hr h hs
    go_enter Try.func40, Try.ntmps40
    go_wp2_with (fail)
    go_ret2
    refine ⟨?_, (Below.refl _ _).alloc (Nat.le_refl _) _⟩
    have e : (⟨(hdM s.size).toArray⟩ : ByteArray) ++ s = ⟨(hdM s.size ++ s.data.toList).toArray⟩ := by
      apply ByteArray.ext
      rw [ByteArray.data_append]
      simp
    show Ending.returned (.tuple #[.string (⟨(hdM s.size).toArray⟩ ++ s), .int .i64 0]) = _
    rw [e]
end Go.Proofs.Ytkdfbmbccopchaa
