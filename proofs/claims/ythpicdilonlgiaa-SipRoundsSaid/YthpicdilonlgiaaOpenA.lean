/- An argument that is an array of four words, opened. -/
import Derived.Test.YthpicdilonlgiaaArrEq
import Derived.Laws.IdiomArrays
import Derived.Lib.SmallJoins
namespace Go.Proofs.Ythpicdilonlgiaa
open Go.ChangeShapes Go.WideShapes Go.ChangeAt Go.RowKit

theorem cells_arr4 : Try.prog.cellsOf 36 = 4 := by kernel_rfl
theorem open_u64 {H : Type} {enc : TypeId × Value → H} {w : World} {base : Nat} {spare : Nat → Bool} {held : Bool} {n : Nat} {c : Value} {y : DataW H × List MemPlace}
    (h : DataW.trod enc Try.prog w base spare held n 35 [c] = some y) : ∃ a : BitVec 64, c = .int .u64 (U a) := by
  obtain ⟨a, e0, _, wa⟩ := DataW.trod_int Try.underlying35 h
  simp at e0
  subst e0
  exact ⟨_, by rw [U_of (wf_u64 wa)]⟩
set_option maxRecDepth 100000 in
theorem open_arr4 {H : Type} {enc : TypeId × Value → H} {W : World} {base b0 : Nat} {r : Reach} {spare : Nat → Bool} {held : Bool} {v : Value} {d : DataW H} {p : List MemPlace}
    (hv : Value.okWide Try.prog W r b0 36 v) (h : DataW.Trod enc Try.prog W base spare held 36 v d p) :
    ∃ a b c e : BitVec 64, v = .agg #[.int .u64 (U a), .int .u64 (U b), .int .u64 (U c), .int .u64 (U e)] := by
  have hs : ∃ cs, v = .agg cs ∧ cs.size = 4 := by
    simp only [Value.okWide, Try.underlying36] at hv
    obtain ⟨cs, h1, h2, _⟩ := hv
    exact ⟨cs, h1, h2.trans cells_arr4⟩
  obtain ⟨cs, rfl, hsz⟩ := hs
  obtain ⟨c0, c1, c2, c3, rfl⟩ := Joins.array4 hsz
  obtain ⟨fuel, hf⟩ := h
  obtain ⟨y0, y1, y2, y3, n, _, h0, h1, h2, h3⟩ := trod_array4 Try.underlying36 cells_u64 (by simpa [Value.cells] using hf)
  obtain ⟨a, rfl⟩ := open_u64 h0
  obtain ⟨b, rfl⟩ := open_u64 h1
  obtain ⟨c, rfl⟩ := open_u64 h2
  obtain ⟨e, rfl⟩ := open_u64 h3
  exact ⟨a, b, c, e, rfl⟩
end Go.Proofs.Ythpicdilonlgiaa
