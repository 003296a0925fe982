/- A slice of numbers of 32 bits that came in; no program's function in sight. Conditions: none. -/
import Derived.Test.YtfipacfompihkaaBase
import Derived.Test.YtfipacfompihkaaChecked
import Derived.OpenShut
namespace Go.Proofs.Ytfipacfompihkaa
open Go.ChangeShapes Go.WideShapes Go.ChangeAt Go.RowKit

/-- A slice that reads as numbers. -/
def U32s (w : World) (A : Option Addr) (xs : List Nat) : Prop :=
  (∀ x ∈ xs, x < 4294967296) ∧ (0 < xs.length → ∃ b off, A = some ⟨b, off, none⟩ ∧ b < w.heap.size ∧ ∀ (j x : Nat), xs[j]? = some x → w.cell? ⟨b, off + j, none⟩ = some (.int .u32 (x : Int)))
theorem U32s.below {w w' : World} {A : Option Addr} {xs : List Nat} (h : U32s w A xs) (hb : Below w.heap.size w w') : U32s w' A xs := by
  refine ⟨h.1, fun hn => ?_⟩
  obtain ⟨b, off, hA, hlt, hc⟩ := h.2 hn
  exact ⟨b, off, hA, Nat.lt_of_lt_of_le hlt hb.size, fun j x hx => (hb.cell (p := ⟨b, off + j, none⟩) hlt).trans (hc j x hx)⟩

set_option maxRecDepth 100000 in
theorem open_u32s {H : Type} {enc : TypeId × Value → H} {W : World} {base : Nat} {r : Reach} {b0 : Nat} {spare : Nat → Bool} {held : Bool} {v : Value} {d : DataW H} {p : List MemPlace}
    (hv : Value.okWide Try.prog W r b0 22 v) (h : DataW.Trod enc Try.prog W base spare held 22 v d p) :
    ∃ (A : Option Addr) (xs : List Nat) (c : Nat), v = .slice A xs.length c ∧ U32s W A xs ∧ xs.length ≤ c ∧ c ≤ maxLen := by
  obtain ⟨a0, len0, cap0, rfl⟩ := okWide_slice Try.underlying22 hv
  obtain ⟨fuel, hf⟩ := h
  have hc : Try.prog.cellsOf 23 = 1 := by kernel_rfl
  rcases open_ints Try.underlying22 Try.underlying23 hc hf with ⟨e1, _⟩ | ⟨a, len, cap, zs, e1, _, hl, hm, hzl, _, hcell, hwf⟩
  · simp [Value.cells] at e1
    obtain ⟨rfl, rfl, rfl⟩ := e1
    exact ⟨none, [], 0, rfl, ⟨fun _ hx => absurd hx (by simp), fun hx => absurd hx (by simp)⟩, Nat.le_refl _, Nat.zero_le _⟩
  · simp [Value.cells] at e1
    obtain ⟨rfl, rfl, rfl⟩ := e1
    have hlz : len0 ≤ zs.length := by rw [hzl]; split <;> omega
    have hbd : ∀ n ∈ zs, 0 ≤ n ∧ n ≤ 4294967295 := fun n hn => wf_u32 (hwf n hn)
    refine ⟨some a, (zs.take len0).map Int.toNat, cap0, by simp [Nat.min_eq_left hlz], ⟨fun x hx => ?_, fun hp => ?_⟩, by simp; omega, hm⟩
    · obtain ⟨n, hn, rfl⟩ := List.mem_map.1 hx
      have := hbd n (List.mem_of_mem_take hn)
      omega
    · have hp0 : 0 < zs.length := by simp at hp; omega
      obtain ⟨b, off, rfl, hcl⟩ := ints_at hcell hp0
      refine ⟨b, off, rfl, ?_, fun j x hx => ?_⟩
      · have := hcl 0 hp0
        exact World.block_lt_of_cell? _ _ this
      · rw [List.getElem?_map] at hx
        cases hz : (zs.take len0)[j]? with
        | none => rw [hz] at hx; cases hx
        | some n =>
          rw [hz] at hx
          have hx2 : n.toNat = x := Option.some.inj hx
          have hmem := List.mem_of_getElem? hz
          have hb := hbd n (List.mem_of_mem_take hmem)
          have hj : j < zs.length := by
            have := (List.getElem?_eq_some_iff.1 hz).1
            simp at this; omega
          rw [hcl j hj]
          have hjl : j < len0 := by
            have := (List.getElem?_eq_some_iff.1 hz).1
            simp at this; omega
          rw [List.getElem?_take_of_lt hjl] at hz
          have e2 : zs.getD j 0 = n := by rw [List.getD_eq_getElem?_getD, hz]; rfl
          rw [e2]
          have : n = (x : Int) := by omega
          rw [this]
end Go.Proofs.Ytfipacfompihkaa
