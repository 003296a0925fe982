/- The walk of hardtackref02's SameTexts, at two lists that are one. -/
import Derived.Test.YtkjefohkhdadaaaTTab
import Derived.Deep.QuietTactic
import Derived.BigQuiet
import Derived.Deep.LoopGhost
import Derived.Outline
namespace Go.Proofs.Ytkjefohkhdadaaa
open Go.RowKit Go.Lib

set_option maxRecDepth 100000 in
set_option maxHeartbeats 2000000 in
theorem sameT_any (xs : List ByteArray) (A B : Option Addr) (c d : Nat) (w : World) (hA : TTab w A (xs.map Value.string)) (hB : TTab w B (xs.map Value.string)) (hn : xs.length ≤ 1000000) :
    Calls Try.prog 57 #[.slice A xs.length c, .slice B xs.length d] w fun e w' => e = .returned (.bool true) ∧ Below w.heap.size w w' := by
  have HA := Lib.hid (And.intro hA hB)
  have hlI : (xs.length : Int) ≤ 1000000 := by omega
  have hnn : ((xs.length : Int) != (xs.length : Int)) = false := by simp
  clear hA hB
  go_enter Try.func57, Try.ntmps57
  go_wp2_with (fail)
  go_loopg [5, 13] xs.length (fun g _ v wr => ∃ k : Nat, g + k = xs.length ∧ v = .int .i64 (k : Int) ∧ ∃ m, wr = w.drewN m)
  case atStart => exact ⟨0, by omega, rfl, 0, rfl⟩
  case round =>
    obtain ⟨k, hg, rfl, m, rfl⟩ := hrel
    by_cases hlt : k < xs.length
    · obtain ⟨a, o, rfl, hal, hac⟩ := HA.out.1 (by rw [List.length_map]; omega)
      obtain ⟨b, p, rfl, hbl, hbc⟩ := HA.out.2 (by rw [List.length_map]; omega)
      obtain ⟨e, he⟩ : ∃ e, xs[k]? = some e := ⟨_, List.getElem?_eq_getElem hlt⟩
      have hek : (xs.map Value.string)[k]? = some (.string e) := by rw [List.getElem?_map, he]; rfl
      generalize hV : w.drewN m = V
      have a0 : V.cell? ⟨a, o + k, none⟩ = some (.string e) := by rw [← hV]; exact hac k _ hek
      have b0 : V.cell? ⟨b, p + k, none⟩ = some (.string e) := by rw [← hV]; exact hbc k _ hek
      have hltI : (k : Int) < (xs.length : Int) := by omega
      have hkI : (k : Int) ≤ 1000000 := by omega
      have HV := Lib.hid hV
      clear hac hbc hV
      go_wp2_with (fail)
      go_quiet (fail)
      go_wp2_with (fail)
      go_roundg (xs.length - (k + 1))
      case measure => omega
      case rel => exact ⟨k + 1, by omega, by go_num, m + nq, by rw [← HV.out, World.drewN_drewN]⟩
    · obtain rfl : k = xs.length := by omega
      go_wp2_with (fail)
      go_ret
      exact ⟨rfl, ⟨rfl, rfl, rfl, Nat.le_refl _, fun _ _ => rfl⟩⟩

end Go.Proofs.Ytkjefohkhdadaaa
