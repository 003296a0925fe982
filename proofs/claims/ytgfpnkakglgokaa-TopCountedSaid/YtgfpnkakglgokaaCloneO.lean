/- Lists of options that the call itself makes; the walk of slices.Clone at options. -/
import Derived.Test.YtgfpnkakglgokaaOpt
import Derived.Test.YtgfpnkakglgokaaRes
import Derived.Test.YtgfpnkakglgokaaReads
namespace Go.Proofs.Ytgfpnkakglgokaa
open Go.RowKit Go.Lib

/-- The cells of a table. -/
def flatO (xs : List Opt) : List Value := xs.flatMap Opt.vs
theorem flatO_length (xs : List Opt) : (flatO xs).length = xs.length * 2 := by
  induction xs with
  | nil => rfl
  | cons e xs ih =>
    have : flatO (e :: xs) = e.vs ++ flatO xs := rfl
    rw [this, List.length_append, ih]; simp [Opt.vs]; omega
theorem flatO_append (xs ys : List Opt) : flatO (xs ++ ys) = flatO xs ++ flatO ys := by simp [flatO]
theorem flatO_get : ∀ (xs : List Opt) (j : Nat) (u : Value), (flatO xs)[j]? = some u → ∃ e, xs[j / 2]? = some e ∧ e.vs[j % 2]? = some u
  | [], j, u, h => by simp [flatO] at h
  | e :: xs, j, u, h => by
    have h1 : flatO (e :: xs) = e.vs ++ flatO xs := rfl
    rw [h1] at h
    by_cases hj : j < 2
    · rw [List.getElem?_append_left (by simpa [Opt.vs] using hj)] at h
      have h2 : j / 2 = 0 := by omega
      have h3 : j % 2 = j := by omega
      rw [h2, h3]
      exact ⟨e, rfl, h⟩
    · rw [List.getElem?_append_right (by simp [Opt.vs]; omega)] at h
      have h2 : e.vs.length = 2 := rfl
      rw [h2] at h
      obtain ⟨f, hf, hv⟩ := flatO_get xs (j - 2) u h
      have h4 : j / 2 = (j - 2) / 2 + 1 := by omega
      have h5 : j % 2 = (j - 2) % 2 := by omega
      exact ⟨f, by rw [h4]; exact hf, by rw [h5]; exact hv⟩
theorem flatO_at : ∀ (xs : List Opt) (k : Nat) (e : Opt) (i : Nat) (v : Value), xs[k]? = some e → e.vs[i]? = some v → (flatO xs)[k * 2 + i]? = some v
  | [], k, e, i, v, h, _ => by simp at h
  | f :: xs, 0, e, i, v, h, hv => by
    have : f = e := by simpa using h
    subst this
    have h1 : flatO (f :: xs) = f.vs ++ flatO xs := rfl
    have hi : i < f.vs.length := (List.getElem?_eq_some_iff.1 hv).1
    rw [h1, Nat.zero_mul, Nat.zero_add, List.getElem?_append_left hi]
    exact hv
  | f :: xs, k + 1, e, i, v, h, hv => by
    have h1 : flatO (f :: xs) = f.vs ++ flatO xs := rfl
    have h2 : f.vs.length = 2 := rfl
    rw [h1, List.getElem?_append_right (by omega), h2, show (k + 1) * 2 + i - 2 = k * 2 + i by omega]
    exact flatO_at xs k e i v (by simpa using h) hv
theorem flatO_one (xs : List Opt) : ∀ u ∈ flatO xs, u.oneCell' = true := by
  intro u hu
  obtain ⟨e, _, hu⟩ := List.mem_flatMap.1 hu
  simp only [Opt.vs, List.mem_cons, List.not_mem_nil, or_false] at hu
  rcases hu with rfl | rfl <;> rfl
theorem OTab.reads {w : World} {A : Option Addr} {xs : List Opt} (h : OTab w A xs) : Reads w w.heap.size 2 A xs.length (flatO xs) := by
  refine ⟨flatO_length xs, fun hn => ?_⟩
  obtain ⟨b, off, hA, hlt, hc⟩ := h.2 hn
  refine ⟨⟨b, off, none⟩, hA, hlt, fun j u hu => ?_⟩
  obtain ⟨e, he, hv⟩ := flatO_get xs j u hu
  rw [add_lit']
  have := hc (j / 2) e he (j % 2) u hv
  rw [show off + j / 2 * 2 + j % 2 = off + j by omega] at this
  exact this
theorem otab_of_own {w : World} {base : Nat} {e : TypeId} {v : Value} {xs : List Opt} (h : w.ownsRow base e 2 v xs.length (flatO xs)) (hok : ∀ e ∈ xs, e.ok) (hp : 0 < xs.length) :
    ∃ g cap, v = .slice (some ⟨g, 0, none⟩) xs.length cap ∧ OTab w (some ⟨g, 0, none⟩) xs ∧ xs.length ≤ cap := by
  obtain ⟨g, cap, rfl, _, hlt⟩ := h.form hp
  refine ⟨g, cap, rfl, ⟨hok, fun _ => ⟨g, 0, rfl, hlt, fun j f hf i v hv => ?_⟩⟩, ?_⟩
  · have := h.cells (g := g) rfl (j * 2 + i) v (flatO_at xs j f i v hf hv)
    rw [add_lit'] at this
    simpa [Nat.add_assoc] using this
  · rcases h.2 with ⟨h1, _⟩ | ⟨g', cap', cur, h1, _, _, hle, _⟩
    · cases h1
    · injection h1 with _ _ h3
      omega

theorem info_opt : (Try.prog.info? 111).map (fun i => (i.zero, i.size, i.bytes)) = some (some (.agg #[.int .u16 0, .string ⟨#[]⟩]), 2, 24) := by kernel_rfl

theorem own_emptyO (w : World) : (w.alloc (.cells #[] 111)).ownsRow w.heap.size 111 2 (.slice (some ⟨w.heap.size, 0, none⟩) 0 0) 0 [] :=
  ⟨rfl, .inr ⟨w.heap.size, 0, #[], rfl, Nat.le_refl _, heap_alloc_new w _, Nat.le_refl _, by unfold maxLen; omega, rfl, rfl⟩⟩

def ClonePostO (xs : List Opt) (w : World) (e : Ending) (w' : World) : Prop := ∃ v, e = .returned v ∧ w'.ownsRow w.heap.size 111 2 v xs.length (flatO xs) ∧ Below w.heap.size w w'

end Go.Proofs.Ytgfpnkakglgokaa
