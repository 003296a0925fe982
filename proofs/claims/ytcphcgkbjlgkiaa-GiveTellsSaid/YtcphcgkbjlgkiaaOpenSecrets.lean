/- A server's secrets among the arguments, opened: two texts. Conditions: none. -/
import Derived.Test.YtcphcgkbjlgkiaaOpenHash
namespace Go.Proofs.Ytcphcgkbjlgkiaa
open Go.Joins Go.ChangeShapes Go.WideShapes Go.RowKit Go.Deep

theorem secrets_cells : Try.prog.cellsOf 59 = 2 := by kernel_rfl
set_option maxRecDepth 100000 in
theorem open_secrets {H : Type} {enc : TypeId × Value → H} {W : World} {base b0 : Nat} {r : Reach} {spare : Nat → Bool} {held : Bool} {v : Value} {d : DataW H} {p : List MemPlace}
    (hv : Value.okWide Try.prog W r b0 59 v) (h : DataW.Trod enc Try.prog W base spare held 59 v d p) :
    ∃ (s0 s1 : ByteArray), v = .agg #[.string s0, .string s1] ∧ s0.size ≤ maxLen ∧ s1.size ≤ maxLen := by
  obtain ⟨v0, v1, y0, y1, n, rfl, _, _, h0, h1⟩ := open_agg2 Try.underlying59 (by kernel_rfl) secrets_cells hv h
  obtain ⟨s0, q0, _, w0⟩ := DataW.trod_string Try.underlying9 h0
  obtain ⟨s1, q1, _, w1⟩ := DataW.trod_string Try.underlying9 h1
  simp at q0 q1
  subst q0 q1
  exact ⟨s0, s1, rfl, w0, w1⟩
end Go.Proofs.Ytcphcgkbjlgkiaa
