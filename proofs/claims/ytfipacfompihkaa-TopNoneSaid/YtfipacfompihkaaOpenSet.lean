/- A question and a set among the arguments, opened, with the bounds of their numbers. Conditions: none. -/
import Derived.Test.YtfipacfompihkaaRR
import Derived.Test.YtfipacfompihkaaTTab
namespace Go.Proofs.Ytfipacfompihkaa
open Go.Joins Go.ChangeShapes Go.WideShapes Go.ChangeAt Go.RowKit Go.Deep

section
variable {H : Type} {enc : TypeId × Value → H} {W : World} {base : Nat} {spare : Nat → Bool} {held : Bool}
theorem trod_strs {n : Nat} {v : Value} {y : DataW H × List MemPlace} (h : DataW.trod enc Try.prog W base spare held n 47 [v] = some y) :
    ∃ (A : Option Addr) (xs : List ByteArray) (c : Nat), v = .slice A xs.length c ∧ TTab W A (xs.map Value.string) ∧ (∀ x ∈ xs, x.size ≤ maxLen) ∧ xs.length ≤ c ∧ c ≤ maxLen := by
  have hc : Try.prog.cellsOf 9 = 1 := by kernel_rfl
  rcases open_strings Try.underlying47 Try.underlying9 hc h with ⟨e1, _⟩ | ⟨a, len, cap, ss, e1, _, hl, hm, hzl, _, hcell, hok⟩
  · simp at e1
    subst e1
    exact ⟨none, [], 0, rfl, fun hx => absurd hx (by simp), fun _ hx => absurd hx (by simp), Nat.le_refl _, Nat.zero_le _⟩
  · simp at e1
    subst e1
    have hlz : len ≤ ss.length := by rw [hzl]; split <;> omega
    refine ⟨some a, ss.take len, cap, by simp [Nat.min_eq_left hlz], fun hp => ?_, fun x hx => hok x (List.mem_of_mem_take hx), by simp; omega, hm⟩
    have hp0 : 0 < ss.length := by simp at hp; omega
    obtain ⟨b, off, spot⟩ := a
    have hspot : spot = none := by simpa [Addr.add] using World.cell?_spot (hcell 0 hp0)
    subst hspot
    have hcell' : ∀ i, i < ss.length → W.cell? ⟨b, off + i, none⟩ = some (.string (ss.getD i ByteArray.empty)) := fun i hi => by rw [← Go.WideShapes.add_plain]; exact hcell i hi
    refine ⟨b, off, rfl, World.block_lt_of_cell? _ _ (hcell' 0 hp0), fun j u hu => ?_⟩
    rw [List.getElem?_map] at hu
    cases hz : (ss.take len)[j]? with
    | none => rw [hz] at hu; cases hu
    | some n =>
      rw [hz] at hu
      have hx2 : Value.string n = u := Option.some.inj hu
      have hjl : j < len := by
        have := (List.getElem?_eq_some_iff.1 hz).1
        simp at this; omega
      have hj : j < ss.length := by omega
      rw [hcell' j hj]
      rw [List.getElem?_take_of_lt hjl] at hz
      rw [List.getD_eq_getElem?_getD, hz, ← hx2]
      rfl

theorem set_cells : Try.prog.cellsOf 49 = 4 := by kernel_rfl
theorem array4s {α : Type} {cs : Array α} (h : cs.size = 4) : ∃ c0 c1 c2 c3, cs = #[c0, c1, c2, c3] := by
  obtain ⟨l⟩ := cs
  match l, h with
  | [c0, c1, c2, c3], _ => exact ⟨c0, c1, c2, c3, rfl⟩
set_option maxRecDepth 100000 in
theorem open_set {b0 : Nat} {r : Reach} {v : Value} {d : DataW H} {p : List MemPlace}
    (hv : Value.okWide Try.prog W r b0 49 v) (h : DataW.Trod enc Try.prog W base spare held 49 v d p) :
    ∃ (n : ByteArray) (t l : Int) (A : Option Addr) (xs : List ByteArray) (c : Nat), v = .agg #[.string n, .int .u16 t, .int .u32 l, .slice A xs.length c] ∧ TTab W A (xs.map Value.string) ∧ n.size ≤ maxLen ∧ (0 ≤ t ∧ t ≤ 65535) ∧ (0 ≤ l ∧ l ≤ 4294967295) ∧ (∀ x ∈ xs, x.size ≤ maxLen) ∧ xs.length ≤ c ∧ c ≤ maxLen := by
  obtain ⟨cs, rfl, hcs, hall⟩ := open_fields' Try.underlying49 (by kernel_rfl) set_cells hv h
  obtain ⟨c0, c1, c2, c3, rfl⟩ := array4s hcs
  obtain ⟨v0, y0, m0, e0, h0⟩ := hall 0 _ rfl
  obtain ⟨v1, y1, m1, e1, h1⟩ := hall 1 _ rfl
  obtain ⟨v2, y2, m2, e2, h2⟩ := hall 2 _ rfl
  obtain ⟨v3, y3, m3, e3, h3⟩ := hall 3 _ rfl
  simp at e0 e1 e2 e3
  subst e0 e1 e2 e3
  obtain ⟨n, q0, _, w0⟩ := DataW.trod_string Try.underlying9 h0
  obtain ⟨t, q1, _, w1⟩ := DataW.trod_int Try.underlying44 h1
  obtain ⟨l, q2, _, w2⟩ := DataW.trod_int Try.underlying23 h2
  simp at q0 q1 q2
  subst q0 q1 q2
  obtain ⟨A, xs, c, rfl, t1, t2, t3, t4⟩ := trod_strs h3
  exact ⟨n, t, l, A, xs, c, rfl, t1, w0, wf_u16 w1, wf_u32 w2, t2, t3, t4⟩
set_option maxRecDepth 100000 in
theorem open_questionB {b0 : Nat} {r : Reach} {v : Value} {d : DataW H} {p : List MemPlace}
    (hv : Value.okWide Try.prog W r b0 46 v) (h : DataW.Trod enc Try.prog W base spare held 46 v d p) :
    ∃ (n : ByteArray) (t c : Int), v = .agg #[.string n, .int .u16 t, .int .u16 c] ∧ n.size ≤ maxLen ∧ (0 ≤ t ∧ t ≤ 65535) := by
  obtain ⟨cs, rfl, hcs, hall⟩ := open_fields' Try.underlying46 (by kernel_rfl) question_cells hv h
  obtain ⟨c0, c1, c2, rfl⟩ := array3 hcs
  obtain ⟨v0, y0, m0, e0, h0⟩ := hall 0 _ rfl
  obtain ⟨v1, y1, m1, e1, h1⟩ := hall 1 _ rfl
  obtain ⟨v2, y2, m2, e2, h2⟩ := hall 2 _ rfl
  simp at e0 e1 e2
  subst e0 e1 e2
  obtain ⟨n, q0, _, w0⟩ := DataW.trod_string Try.underlying9 h0
  obtain ⟨t, q1, _, w1⟩ := DataW.trod_int Try.underlying44 h1
  obtain ⟨c, q2, _, _⟩ := DataW.trod_int Try.underlying39 h2
  simp at q0 q1 q2
  subst q0 q1 q2
  exact ⟨n, t, c, rfl, w0, wf_u16 w1⟩
end
end Go.Proofs.Ytfipacfompihkaa
