/- The walk of the closure in Fail. Conditions: none. -/
import Derived.Test.YtfipacfompihkaaPeTab
namespace Go.Proofs.Ytfipacfompihkaa
open Go.RowKit Go.Lib

theorem shl_val (f : Int) (h1 : 0 ≤ f) (h2 : f ≤ 30) : 1 ≤ wrap64 (2 ^ f.toNat) ∧ wrap64 (2 ^ f.toNat) ≤ 1073741824 := by
  have : f = 0 ∨ f = 1 ∨ f = 2 ∨ f = 3 ∨ f = 4 ∨ f = 5 ∨ f = 6 ∨ f = 7 ∨ f = 8 ∨ f = 9 ∨ f = 10 ∨ f = 11 ∨ f = 12 ∨ f = 13 ∨ f = 14 ∨ f = 15 ∨ f = 16 ∨ f = 17 ∨ f = 18 ∨ f = 19 ∨ f = 20 ∨ f = 21 ∨ f = 22 ∨ f = 23 ∨ f = 24 ∨ f = 25 ∨ f = 26 ∨ f = 27 ∨ f = 28 ∨ f = 29 ∨ f = 30 := by omega
  rcases this with rfl | rfl | rfl | rfl | rfl | rfl | rfl | rfl | rfl | rfl | rfl | rfl | rfl | rfl | rfl | rfl | rfl | rfl | rfl | rfl | rfl | rfl | rfl | rfl | rfl | rfl | rfl | rfl | rfl | rfl | rfl <;> decide +kernel
set_option maxRecDepth 100000 in
theorem fail1_any (nb bn : Nat) (a f r now : Int) (u v : Option Addr) (w : World) (h : NodeB w nb a f r u v) (hf : 0 ≤ f ∧ f ≤ 30) (hn : 0 ≤ now ∧ now ≤ 1099511627776) (hc : w.cell? ⟨bn, 0, none⟩ = some (.int .i64 now)) (hne : bn ≠ nb) :
    Calls Try.prog 32 #[.pointer (some ⟨nb, 0, none⟩), .pointer (some ⟨bn, 0, none⟩)] w fun e w' => e = .returned (.tuple #[]) ∧ (∃ f' r', NodeB w' nb a f' r' u v ∧ 0 ≤ f' ∧ f' ≤ 30 ∧ now < r' ∧ r' ≤ now + 900) ∧ KeepK (fun i => i < w.heap.size ∧ i ≠ nb) w w' := by
  have c3 := h.cell 3
  have c4 := h.cell 4
  have f3 := h.frozen 3
  have f4 := h.frozen 4
  have H := Lib.hid h
  have HF := Lib.hid (And.intro hf hn)
  have hn0 : 0 ≤ now := hn.1
  have hn1 : now ≤ 1099511627776 := hn.2
  have hf0 : 0 ≤ f := hf.1
  clear h hf hn
  by_cases hf30 : f = 30
  · subst hf30
    have hw : wrap64 (2 ^ (30 : Int).toNat) = 1073741824 := by decide +kernel
    go_enter Try.func32, Try.ntmps32
    go_wp2_with (fail)
    refine bodyPost_end (results_none rfl _ _ _) rfl ?_
    have h1 := (H.out.set_ 3 (.int .i64 30)).set_ 4 (.int .i64 (now + 900))
    exact ⟨rfl, ⟨_, _, by simpa [NodeB] using h1, by omega, by omega, by omega, by omega⟩, ((KeepK.refl _ _).setCell (p := ⟨nb, 3, none⟩) (fun i hi => hi.2) _).setCell (p := ⟨nb, 4, none⟩) (fun i hi => hi.2) _⟩
  · have hle : f + 1 ≤ 30 := by have := HF.out.1.2; omega
    obtain ⟨s, hs⟩ : ∃ s, wrap64 (2 ^ (f + 1).toNat) = s := ⟨_, rfl⟩
    have hsv := shl_val (f + 1) (by omega) hle
    rw [hs] at hsv
    obtain ⟨hs1, hs2⟩ := hsv
    clear hf30
    by_cases h9 : s ≤ 900
    · go_enter Try.func32, Try.ntmps32
      go_wp2_with (fail)
      refine bodyPost_end (results_none rfl _ _ _) rfl ?_
      have h1 := (H.out.set_ 3 (.int .i64 (f + 1))).set_ 4 (.int .i64 (now + s))
      exact ⟨rfl, ⟨_, _, by simpa [NodeB] using h1, by omega, by omega, by omega, by omega⟩, ((KeepK.refl _ _).setCell (p := ⟨nb, 3, none⟩) (fun i hi => hi.2) _).setCell (p := ⟨nb, 4, none⟩) (fun i hi => hi.2) _⟩
    · have h10 : ¬ s ≤ 900 := h9
      go_enter Try.func32, Try.ntmps32
      go_wp2_with (fail)
      refine bodyPost_end (results_none rfl _ _ _) rfl ?_
      have h1 := (H.out.set_ 3 (.int .i64 (f + 1))).set_ 4 (.int .i64 (now + 900))
      exact ⟨rfl, ⟨_, _, by simpa [NodeB] using h1, by omega, by omega, by omega, by omega⟩, ((KeepK.refl _ _).setCell (p := ⟨nb, 3, none⟩) (fun i hi => hi.2) _).setCell (p := ⟨nb, 4, none⟩) (fun i hi => hi.2) _⟩
end Go.Proofs.Ytfipacfompihkaa
