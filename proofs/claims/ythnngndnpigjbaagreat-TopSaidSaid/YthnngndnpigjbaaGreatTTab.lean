/- A slice that reads as values of one cell; such slices of texts and of bytes that came in. No program's function in sight. Conditions: none. -/
import Derived.Test.YthnngndnpigjbaaGreatSl
import Derived.Test.YthnngndnpigjbaaGreatChecked
import Derived.OpenShut
import Derived.SliceStrings
namespace Go.Proofs.YthnngndnpigjbaaGreat
open Go.ChangeShapes Go.WideShapes Go.ChangeAt Go.RowKit

/-- A slice that reads as texts. -/
def TTab (w : World) (A : Option Addr) (xs : List Value) : Prop :=
  0 < xs.length → ∃ b off, A = some ⟨b, off, none⟩ ∧ b < w.heap.size ∧ ∀ (j : Nat) (u : Value), xs[j]? = some u → w.cell? ⟨b, off + j, none⟩ = some u
theorem TTab.below {w w' : World} {A : Option Addr} {xs : List Value} (h : TTab w A xs) (hb : Below w.heap.size w w') : TTab w' A xs := fun hn => by
  obtain ⟨b, off, hA, hlt, hc⟩ := h hn
  exact ⟨b, off, hA, Nat.lt_of_lt_of_le hlt hb.size, fun j u hu => by rw [hb.cell (p := ⟨b, off + j, none⟩) hlt]; exact hc j u hu⟩
theorem ttab_of_sl {w : World} {A : Option Addr} {c : Nat} {xs : List Value} (h : Sl w 1 (.slice A xs.length c) xs.length xs) : TTab w A xs := fun hp => by
  obtain ⟨g, cap, hv, hg, _, _, h4⟩ := h.form hp
  injection hv with hA _ _
  subst hA
  exact ⟨g, 0, rfl, hg, fun j u hu => by rw [Nat.zero_add]; exact h4 j u hu⟩

set_option maxRecDepth 100000 in
theorem open_strs {H : Type} {enc : TypeId × Value → H} {W : World} {base : Nat} {r : Reach} {b0 : Nat} {spare : Nat → Bool} {held : Bool} {v : Value} {d : DataW H} {p : List MemPlace}
    (hv : Value.okWide Tryz.prog W r b0 34 v) (h : DataW.Trod enc Tryz.prog W base spare held 34 v d p) :
    ∃ (A : Option Addr) (xs : List ByteArray) (c : Nat), v = .slice A xs.length c ∧ TTab W A (xs.map Value.string) ∧ (∀ x ∈ xs, x.size ≤ maxLen) ∧ xs.length ≤ c ∧ c ≤ maxLen := by
  obtain ⟨a0, len0, cap0, rfl⟩ := okWide_slice Tryz.underlying34 hv
  obtain ⟨fuel, hf⟩ := h
  have hc : Tryz.prog.cellsOf 9 = 1 := by kernel_rfl
  rcases open_strings Tryz.underlying34 Tryz.underlying9 hc hf with ⟨e1, _⟩ | ⟨a, len, cap, ss, e1, _, hl, hm, hzl, _, hcell, hok⟩
  · simp [Value.cells] at e1
    obtain ⟨rfl, rfl, rfl⟩ := e1
    exact ⟨none, [], 0, rfl, fun hx => absurd hx (by simp), fun _ hx => absurd hx (by simp), Nat.le_refl _, Nat.zero_le _⟩
  · simp [Value.cells] at e1
    obtain ⟨rfl, rfl, rfl⟩ := e1
    have hlz : len0 ≤ ss.length := by rw [hzl]; split <;> omega
    refine ⟨some a, ss.take len0, cap0, by simp [Nat.min_eq_left hlz], fun hp => ?_, fun x hx => hok x (List.mem_of_mem_take hx), by simp; omega, hm⟩
    have hp0 : 0 < ss.length := by simp at hp; omega
    obtain ⟨b, off, spot⟩ := a
    have hspot : spot = none := by simpa [Addr.add] using World.cell?_spot (hcell 0 hp0)
    subst hspot
    have hcell' : ∀ i, i < ss.length → W.cell? ⟨b, off + i, none⟩ = some (.string (ss.getD i ByteArray.empty)) := fun i hi => by rw [← Go.WideShapes.add_plain]; exact hcell i hi
    refine ⟨b, off, rfl, World.block_lt_of_cell? _ _ (hcell' 0 hp0), fun j u hu => ?_⟩
    rw [List.getElem?_map] at hu
    cases hz : (ss.take len0)[j]? with
    | none => rw [hz] at hu; cases hu
    | some n =>
      rw [hz] at hu
      have hx2 : Value.string n = u := Option.some.inj hu
      have hjl : j < len0 := by
        have := (List.getElem?_eq_some_iff.1 hz).1
        simp at this; omega
      have hj : j < ss.length := by omega
      rw [hcell' j hj]
      rw [List.getElem?_take_of_lt hjl] at hz
      rw [List.getD_eq_getElem?_getD, hz, ← hx2]
      rfl

set_option maxRecDepth 100000 in
theorem open_u8s {H : Type} {enc : TypeId × Value → H} {W : World} {base : Nat} {r : Reach} {b0 : Nat} {spare : Nat → Bool} {held : Bool} {v : Value} {d : DataW H} {p : List MemPlace}
    (hv : Value.okWide Tryz.prog W r b0 106 v) (h : DataW.Trod enc Tryz.prog W base spare held 106 v d p) :
    ∃ (A : Option Addr) (xs : List Nat) (c : Nat), v = .slice A xs.length c ∧ TTab W A (xs.map fun n : Nat => Value.int .u8 (n : Int)) ∧ (∀ x ∈ xs, x < 256) ∧ xs.length ≤ c ∧ c ≤ maxLen := by
  obtain ⟨a0, len0, cap0, rfl⟩ := okWide_slice Tryz.underlying106 hv
  obtain ⟨fuel, hf⟩ := h
  have hc : Tryz.prog.cellsOf 5 = 1 := by kernel_rfl
  rcases open_ints Tryz.underlying106 Tryz.underlying5 hc hf with ⟨e1, _⟩ | ⟨a, len, cap, zs, e1, _, hl, hm, hzl, _, hcell, hwf⟩
  · simp [Value.cells] at e1
    obtain ⟨rfl, rfl, rfl⟩ := e1
    exact ⟨none, [], 0, rfl, fun hx => absurd hx (by simp), fun _ hx => absurd hx (by simp), Nat.le_refl _, Nat.zero_le _⟩
  · simp [Value.cells] at e1
    obtain ⟨rfl, rfl, rfl⟩ := e1
    have hlz : len0 ≤ zs.length := by rw [hzl]; split <;> omega
    have hbd : ∀ n ∈ zs, 0 ≤ n ∧ n ≤ 255 := fun n hn => wf_u8 (hwf n hn)
    refine ⟨some a, (zs.take len0).map Int.toNat, cap0, by simp [Nat.min_eq_left hlz], fun hp => ?_, fun x hx => ?_, by simp; omega, hm⟩
    · have hp0 : 0 < zs.length := by simp at hp; omega
      obtain ⟨b, off, rfl, hcl⟩ := ints_at hcell hp0
      refine ⟨b, off, rfl, World.block_lt_of_cell? _ _ (hcl 0 hp0), fun j u hu => ?_⟩
      rw [List.map_map, List.getElem?_map] at hu
      cases hz : (zs.take len0)[j]? with
      | none => rw [hz] at hu; cases hu
      | some n =>
        rw [hz] at hu
        have hx2 : Value.int .u8 ((n.toNat : Nat) : Int) = u := Option.some.inj hu
        have hmem := List.mem_of_getElem? hz
        have hb := hbd n (List.mem_of_mem_take hmem)
        have hjl : j < len0 := by
          have := (List.getElem?_eq_some_iff.1 hz).1
          simp at this; omega
        rw [hcl j (by omega)]
        rw [List.getElem?_take_of_lt hjl] at hz
        have e2 : zs.getD j 0 = n := by rw [List.getD_eq_getElem?_getD, hz]; rfl
        rw [e2, ← hx2]
        have : ((n.toNat : Nat) : Int) = n := by omega
        rw [this]
    · obtain ⟨n, hn, rfl⟩ := List.mem_map.1 hx
      have := hbd n (List.mem_of_mem_take hn)
      omega
end Go.Proofs.YthnngndnpigjbaaGreat
