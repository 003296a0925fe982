/- The walks of hardtackref02's SameTexts (at two lists that are one), of both Frames, of ref30's Feed, of stream's New and Waits. -/
import Derived.Test.YtkdfbmbccopchaaStreamR
import Derived.Test.YtkdfbmbccopchaaWriterF
import Derived.Test.YtkdfbmbccopchaaTTab
namespace Go.Proofs.Ytkdfbmbccopchaa
open Go.RowKit Go.Lib

set_option maxRecDepth 100000 in
set_option maxHeartbeats 2000000 in
theorem sameT_any (xs : List ByteArray) (A B : Option Addr) (c d : Nat) (w : World) (hA : TTab w A (xs.map Value.string)) (hB : TTab w B (xs.map Value.string)) (hn : xs.length ≤ 1000000) :
    Calls Try.prog 43 #[.slice A xs.length c, .slice B xs.length d] w fun e w' => e = .returned (.bool true) ∧ Below w.heap.size w w' := by
  have HA := Lib.hid (And.intro hA hB)
  have hlI : (xs.length : Int) ≤ 1000000 := by omega
  have hnn : ((xs.length : Int) != (xs.length : Int)) = false := by simp
  clear hA hB
  go_enter Try.func43, Try.ntmps43
  go_wp2_with (fail)
  go_loopg [5, 13] xs.length (fun g _ v wr => ∃ k : Nat, g + k = xs.length ∧ v = .int .i64 (k : Int) ∧ ∃ m, wr = w.drewN m)
  case atStart => exact ⟨0, by omega, rfl, 0, rfl⟩
  case round =>
    obtain ⟨k, hg, rfl, m, rfl⟩ := hrel
    by_cases hlt : k < xs.length
    · obtain ⟨a, o, rfl, hal, hac⟩ := HA.out.1 (by rw [List.length_map]; omega)
      obtain ⟨b, p, rfl, hbl, hbc⟩ := HA.out.2 (by rw [List.length_map]; omega)
      obtain ⟨e, he⟩ : ∃ e, xs[k]? = some e := ⟨_, List.getElem?_eq_getElem hlt⟩
      have hek : (xs.map Value.string)[k]? = some (.string e) := by rw [List.getElem?_map, he]; rfl
      generalize hV : w.drewN m = V
      have a0 : V.cell? ⟨a, o + k, none⟩ = some (.string e) := by rw [← hV]; exact hac k _ hek
      have b0 : V.cell? ⟨b, p + k, none⟩ = some (.string e) := by rw [← hV]; exact hbc k _ hek
      have hltI : (k : Int) < (xs.length : Int) := by omega
      have hkI : (k : Int) ≤ 1000000 := by omega
      have HV := Lib.hid hV
      clear hac hbc hV
      go_wp2_with (fail)
      go_quiet (fail)
      go_wp2_with (fail)
      go_roundg (xs.length - (k + 1))
      case measure => omega
      case rel => exact ⟨k + 1, by omega, by go_num, m + nq, by rw [← HV.out, World.drewN_drewN]⟩
    · obtain rfl : k = xs.length := by omega
      go_wp2_with (fail)
      go_ret
      exact ⟨rfl, ⟨rfl, rfl, rfl, Nat.le_refl _, fun _ _ => rfl⟩⟩

theorem sNew_any (w : World) : Calls Try.prog 44 #[] w fun e w' => e = .returned (.pointer (some ⟨w.heap.size, 0, none⟩)) ∧ w' = w.alloc (.cells #[.slice none 0 0] 127) := by
  go_enter Try.func44, Try.ntmps44
  go_wp2
  go_ret
  exact ⟨rfl, rfl⟩
theorem sWaits_any (w : World) (b : Nat) (A : Option Addr) (n c : Nat) (h : Blk w b 127 #[.slice A n c]) : Calls Try.prog 47 #[.pointer (some ⟨b, 0, none⟩)] w fun e w' => e = .returned (.int .i64 (n : Int)) ∧ w = w' := by
  have c0 := h.cell 0
  clear h
  go_enter Try.func47, Try.ntmps47
  go_wp2
  go_ret
  exact ⟨rfl, rfl⟩

/-- What Frame answers. -/
def frameV (s : ByteArray) : ByteArray × Int := if 65535 < s.size then (⟨#[]⟩, 7) else (⟨(hdM s.size ++ s.data.toList).toArray⟩, 0)
end Go.Proofs.Ytkdfbmbccopchaa
