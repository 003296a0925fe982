/- The table of peers, of which one at most is known. Conditions: none. -/
import Derived.Test.YtfipacfompihkaaPeM
import Derived.Test.YtfipacfompihkaaMapR
import Derived.Deep.QuietTactic
import Derived.BigQuiet
import Derived.Deep.DeepMust
namespace Go.Proofs.Ytfipacfompihkaa
open Go.RowKit Go.Lib

/-- Nobody is known. -/
structure P0 (w : World) (g mb n : Nat) : Prop where
  bx : Blk w g 86 #[.int .i64 64, .map (some mb), .pointer none, .pointer none]
  mp : ∃ F : Lit → Option Value, MapV Try.prog 23 w mb n F ∧ ∀ k : Int, F (.int .u32 k) = none
  ne : g ≠ mb
/-- A node that stands by itself. -/
def NodeB (w : World) (nb : Nat) (a f r : Int) (u v : Option Addr) : Prop := Blk w nb 98 #[.int .u32 a, .string ⟨#[]⟩, .bool false, .int .i64 f, .int .i64 r, .pointer u, .pointer v]
/-- One is known. -/
structure P1 (w : World) (g mb nb n : Nat) (a f r : Int) : Prop where
  bx : Blk w g 86 #[.int .i64 64, .map (some mb), .pointer (some ⟨nb, 0, none⟩), .pointer (some ⟨nb, 0, none⟩)]
  no : NodeB w nb a f r none none
  mp : ∃ F : Lit → Option Value, MapV Try.prog 23 w mb n F ∧ ∀ k, F (.int .u32 k) = if k = a then some (.pointer (some ⟨nb, 0, none⟩)) else none
  ne : g ≠ mb ∧ nb ≠ g ∧ nb ≠ mb
theorem pe_new (w : World) : Calls Try.prog 8 #[.int .i64 64] w fun e w' => ∃ g mb, e = .returned (.tuple #[.pointer (some ⟨g, 0, none⟩), .int .i64 0]) ∧ P0 w' g mb 0 ∧ Below w.heap.size w w' ∧ w.heap.size ≤ g ∧ w.heap.size ≤ mb := by
  have hmm : ∀ W : World, (Instr.makeMap 83 none).run Try.prog W = .ok (.map (some W.heap.size)) (W.alloc (.map #[] 0)) := fun W => rfl
  go_enter Try.func8, Try.ntmps8
  go_wp2_with (fail)
  go_ret2
  have hB : Blk ((w.alloc (.map #[] 0)).alloc (.cells #[.int .i64 64, .map (some w.heap.size), .pointer none, .pointer none] 86)) (w.heap.size + 1) 86 #[.int .i64 64, .map (some w.heap.size), .pointer none, .pointer none] := by
    have h1 := Blk.new (w.alloc (.map #[] 0)) 86 #[.int .i64 64, .map (some w.heap.size), .pointer none, .pointer none]
    rw [World.size_alloc] at h1
    exact h1
  exact ⟨_, _, rfl, ⟨hB, ⟨_, (MapV.made w _ _).alloc _, fun _ => rfl⟩, by omega⟩, ((Below.refl _ _).alloc (Nat.le_refl _) _).alloc (by simp) _, by omega, Nat.le_refl _⟩
set_option maxRecDepth 100000 in
theorem good1_any (nb : Nat) (a f r : Int) (u v : Option Addr) (w : World) (h : NodeB w nb a f r u v) :
    Calls Try.prog 39 #[.pointer (some ⟨nb, 0, none⟩)] w fun e w' => e = .returned (.tuple #[]) ∧ NodeB w' nb a 0 0 u v ∧ KeepK (fun i => i < w.heap.size ∧ i ≠ nb) w w' := by
  have c3 := h.cell 3
  have c4 := h.cell 4
  have f3 := h.frozen 3
  have f4 := h.frozen 4
  have H := Lib.hid h
  clear h
  go_enter Try.func39, Try.ntmps39
  go_wp2_with (fail)
  refine bodyPost_end (results_none rfl _ _ _) rfl ?_
  have h1 := (H.out.set_ 3 (.int .i64 0)).set_ 4 (.int .i64 0)
  exact ⟨rfl, by simpa [NodeB] using h1, ((KeepK.refl _ _).setCell (p := ⟨nb, 3, none⟩) (fun i hi => hi.2) _).setCell (p := ⟨nb, 4, none⟩) (fun i hi => hi.2) _⟩
end Go.Proofs.Ytfipacfompihkaa
