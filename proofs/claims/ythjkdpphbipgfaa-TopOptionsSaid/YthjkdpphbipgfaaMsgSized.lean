/- A message among the arguments: its lists are no longer than memory can hold. Conditions: none. -/
import Derived.Test.YthjkdpphbipgfaaRR
import Derived.SizedLaws
namespace Go.Proofs.Ythjkdpphbipgfaa
open Go.Joins Go.ChangeShapes Go.WideShapes Go.RowKit Go.Deep

theorem slice_reach {H : Type} {enc : TypeId × Value → H} {P : Program} {w : World} {base : Nat} {spare : Nat → Bool} {held : Bool} {t e : TypeId} {fuel len cap : Nat} {A : Option Addr} {x : DataW H × List MemPlace} (hu : P.underlying t = some (.slice e)) (hb : 1 ≤ P.bytesOf e)
    (h : DataW.trod enc P w base spare held fuel t [.slice A len cap] = some x) (hw : ∀ n ∈ x.1.weights P t, n ≤ reachBytes) : len ≤ 140737488355328 := by
  rcases DataW.trod_slice hu h with ⟨e1, _⟩ | ⟨a, len', cap', elems, rest, n, _, e1, rfl, _, _, _, hl, _⟩
  · injection e1 with e1 _
    injection e1 with _ e2 _
    omega
  · injection e1 with e1 _
    injection e1 with _ e2 _
    have h1 := hw ((elems.length + rest.length) * P.bytesOf e) (by simp [DataW.weights, hu])
    have h2 : elems.length + rest.length ≤ (elems.length + rest.length) * P.bytesOf e := Nat.le_mul_of_pos_right _ hb
    simp only [reachBytes] at h1
    omega
set_option maxRecDepth 100000 in
theorem msg_sized {H : Type} {enc : TypeId × Value → H} {W : World} {base : Nat} {spare : Nat → Bool} {held : Bool} {d : DataW H} {p : List MemPlace} (m : MRec)
    (h : DataW.Trod enc Try.prog W base spare held 26 m.val d p) (hw : ∀ n ∈ d.weights Try.prog 26, n ≤ reachBytes) :
    m.q.length ≤ 140737488355328 ∧ m.s.length ≤ 140737488355328 ∧ m.h.length ≤ 140737488355328 ∧ m.e.length ≤ 140737488355328 := by
  obtain ⟨fuel, hf⟩ := h
  obtain ⟨ys, n, _, hx, _, hyl, hfs⟩ := DataW.trod_struct Try.underlying26 hf
  have hd : d = .agg (ys.map (·.1)) := congrArg Prod.fst hx
  subst hd
  have key : ∀ (j : Nat) (f : Field) (y : DataW H × List MemPlace), (Try.prog.fieldsOf 26)[j]? = some f → ys[j]? = some y → ∀ k ∈ y.1.weights Try.prog f.type, k ≤ reachBytes := by
    intro j f y hj hy k hk
    refine hw k ?_
    simp only [Program.fieldsOf, Try.underlying26] at hj
    simp only [DataW.weights, Try.underlying26]
    exact DataW.weights_mem_each (j := j) (by rw [List.getElem?_map, Array.getElem?_toList, hj]; rfl) (by rw [List.getElem?_map, hy]; rfl) k hk
  have e2 := hfs 2 _ rfl
  have e3 := hfs 3 _ rfl
  have e4 := hfs 4 _ rfl
  have e5 := hfs 5 _ rfl
  have g : ∀ j, j < 6 → ∃ y, ys[j]? = some y := fun j hj => ⟨_, List.getElem?_eq_getElem (by rw [hyl]; exact hj)⟩
  obtain ⟨y2, h2⟩ := g 2 (by omega)
  obtain ⟨y3, h3⟩ := g 3 (by omega)
  obtain ⟨y4, h4⟩ := g 4 (by omega)
  obtain ⟨y5, h5⟩ := g 5 (by omega)
  rw [h2] at e2
  rw [h3] at e3
  rw [h4] at e4
  rw [h5] at e5
  have hbq : 1 ≤ Try.prog.bytesOf 63 := by
    have h : Try.prog.bytesOf 63 = 24 := by kernel_rfl
    omega
  have hbr : 1 ≤ Try.prog.bytesOf 30 := by
    have h : Try.prog.bytesOf 30 = 40 := by kernel_rfl
    omega
  exact ⟨slice_reach Try.underlying23 hbq e2 (key 2 _ y2 rfl h2), slice_reach Try.underlying24 hbr e3 (key 3 _ y3 rfl h3), slice_reach Try.underlying24 hbr e4 (key 4 _ y4 rfl h4), slice_reach Try.underlying24 hbr e5 (key 5 _ y5 rfl h5)⟩
end Go.Proofs.Ythjkdpphbipgfaa
