/- A slice of numbers of 64 bits that came in; no program's function in sight. Conditions: none. -/
import Derived.Test.YtkdijafnakpfhaaBase
import Derived.Test.YtkdijafnakpfhaaChecked
import Derived.OpenShut
namespace Go.Proofs.Ytkdijafnakpfhaa
open Go.ChangeShapes Go.WideShapes Go.ChangeAt Go.RowKit

/-- A slice that reads as whole numbers. -/
def I64s (w : World) (A : Option Addr) (xs : List Int) : Prop :=
  (∀ x ∈ xs, -9223372036854775808 ≤ x ∧ x ≤ 9223372036854775807) ∧ (0 < xs.length → ∃ b off, A = some ⟨b, off, none⟩ ∧ b < w.heap.size ∧ ∀ (j : Nat) (x : Int), xs[j]? = some x → w.cell? ⟨b, off + j, none⟩ = some (.int .i64 x))
theorem I64s.below {w w' : World} {A : Option Addr} {xs : List Int} (h : I64s w A xs) (hb : Below w.heap.size w w') : I64s w' A xs := by
  refine ⟨h.1, fun hn => ?_⟩
  obtain ⟨b, off, hA, hlt, hc⟩ := h.2 hn
  exact ⟨b, off, hA, Nat.lt_of_lt_of_le hlt hb.size, fun j x hx => (hb.cell (p := ⟨b, off + j, none⟩) hlt).trans (hc j x hx)⟩

set_option maxRecDepth 100000 in
theorem open_i64s {H : Type} {enc : TypeId × Value → H} {W : World} {base : Nat} {r : Reach} {b0 : Nat} {spare : Nat → Bool} {held : Bool} {v : Value} {d : DataW H} {p : List MemPlace}
    (hv : Value.okWide Try.prog W r b0 44 v) (h : DataW.Trod enc Try.prog W base spare held 44 v d p) :
    ∃ (A : Option Addr) (xs : List Int) (c : Nat), v = .slice A xs.length c ∧ I64s W A xs ∧ xs.length ≤ c ∧ c ≤ maxLen := by
  obtain ⟨a0, len0, cap0, rfl⟩ := okWide_slice Try.underlying44 hv
  obtain ⟨fuel, hf⟩ := h
  have hc : Try.prog.cellsOf 2 = 1 := by kernel_rfl
  rcases open_ints Try.underlying44 Try.underlying2 hc hf with ⟨e1, _⟩ | ⟨a, len, cap, zs, e1, _, hl, hm, hzl, _, hcell, hwf⟩
  · simp [Value.cells] at e1
    obtain ⟨rfl, rfl, rfl⟩ := e1
    exact ⟨none, [], 0, rfl, ⟨fun _ hx => absurd hx (by simp), fun hx => absurd hx (by simp)⟩, Nat.le_refl _, Nat.zero_le _⟩
  · simp [Value.cells] at e1
    obtain ⟨rfl, rfl, rfl⟩ := e1
    have hlz : len0 ≤ zs.length := by rw [hzl]; split <;> omega
    have hbd : ∀ n ∈ zs, -9223372036854775808 ≤ n ∧ n ≤ 9223372036854775807 := fun n hn => wf_i64 (hwf n hn)
    refine ⟨some a, zs.take len0, cap0, by simp [Nat.min_eq_left hlz], ⟨fun x hx => hbd x (List.mem_of_mem_take hx), fun hp => ?_⟩, by simp; omega, hm⟩
    have hp0 : 0 < zs.length := by simp at hp; omega
    obtain ⟨b, off, rfl, hcl⟩ := ints_at hcell hp0
    refine ⟨b, off, rfl, ?_, fun j x hx => ?_⟩
    · have := hcl 0 hp0
      exact World.block_lt_of_cell? _ _ this
    · have hj : j < zs.length := by
        have := (List.getElem?_eq_some_iff.1 hx).1
        simp at this; omega
      rw [hcl j hj]
      have hjl : j < len0 := by
        have := (List.getElem?_eq_some_iff.1 hx).1
        simp at this; omega
      rw [List.getElem?_take_of_lt hjl] at hx
      have e2 : zs.getD j 0 = x := by rw [List.getD_eq_getElem?_getD, hx]; rfl
      rw [e2]
end Go.Proofs.Ytkdijafnakpfhaa
