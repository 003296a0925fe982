/- Small words on slices that are owned. No program's function in sight. Conditions: none. -/
import Derived.Test.YtenmhfhnhfhooaaDoorSl
namespace Go.Proofs.YtenmhfhnhfhooaaDoor
open Go.RowKit

theorem sl_empty (w : World) (t : TypeId) : Sl (w.alloc (.cells #[] t)) 1 (.slice (some ⟨w.heap.size, 0, none⟩) 0 0) 0 [] :=
  ⟨rfl, .inr ⟨w.heap.size, 0, rfl, by simp, Nat.le_refl _, Nat.zero_le _, fun j hj => absurd hj (by omega), fun j u hu => by simp at hu⟩⟩
/-- One value more in a new block, as the source of an append. -/
theorem src_new {P : Program} {tx e' : TypeId} (hk : P.underlying tx = some (.slice e')) (w : World) (t : TypeId) (u : Value) (h1 : u.oneCell' = true) : Src P 1 tx (.slice (some ⟨w.heap.size, 0, none⟩) 1 1) 1 [u] (w.alloc (.cells #[u] t)) :=
  Src.ofSlice _ hk ⟨w.heap.size, 0, none⟩ 1 1 [u] rfl (fun j x hx => by
    match j, hx with
    | 0, hx =>
      have : u = x := by simpa using hx
      subst this
      simp [Addr.add]
    | j + 1, hx => simp at hx) (fun x hx => by rw [List.mem_singleton.1 hx]; exact h1)
/-- How an append keeps the owner's block on the call's own side. -/
theorem own_from {B : Nat} {w : World} {v v' : Value} (h : ∀ g, v.ownBlock = some g → B ≤ g) (hB : B ≤ w.heap.size) (hv : v'.ownBlock = v.ownBlock ∨ v'.ownBlock = some w.heap.size) : ∀ g, v'.ownBlock = some g → B ≤ g := by
  intro g hg
  rcases hv with e | e
  · exact h g (e.symm.trans hg)
  · rw [hg] at e
    have : g = w.heap.size := Option.some.inj e
    omega

/-- 's[lo:hi]', at numbers that are known. -/
theorem slice_nat {P : Program} {t : TypeId} (hu : P.underlying t = some .string) (s : ByteArray) (a b : Nat) (lo hi : Int) (hlo : lo = (a : Int)) (hhi : hi = (b : Int)) (h1 : a ≤ b) (h2 : b ≤ s.size) (W : World) :
    (Instr.slice t (.string s) (some (.int .i64 lo)) (some (.int .i64 hi)) none).run P W = .ok (.string (s.extract a b)) W := by
  subst hlo hhi
  have := run_slice_string (P := P) W t s .i64 .i64 (a : Int) (b : Int) hu (by omega) (by omega) (by omega)
  simpa using this
end Go.Proofs.YtenmhfhnhfhooaaDoor
