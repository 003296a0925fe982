/- Tables that the call itself makes; the walk of slices.Clone at a table. -/
import Derived.Test.YtcphcgkbjlgkiaaKeyedApart
import Derived.Test.YtcphcgkbjlgkiaaReads
namespace Go.Proofs.Ytcphcgkbjlgkiaa
open Go.RowKit Go.Lib

/-- The cells of a table. -/
def flat (xs : List Entry) : List Value := xs.flatMap Entry.vs
theorem flat_length (xs : List Entry) : (flat xs).length = xs.length * 3 := by
  induction xs with
  | nil => rfl
  | cons e xs ih =>
    have : flat (e :: xs) = e.vs ++ flat xs := rfl
    rw [this, List.length_append, ih]; simp [Entry.vs]; omega
theorem flat_append (xs ys : List Entry) : flat (xs ++ ys) = flat xs ++ flat ys := by simp [flat]
theorem flat_get : ∀ (xs : List Entry) (j : Nat) (u : Value), (flat xs)[j]? = some u → ∃ e, xs[j / 3]? = some e ∧ e.vs[j % 3]? = some u
  | [], j, u, h => by simp [flat] at h
  | e :: xs, j, u, h => by
    have h1 : flat (e :: xs) = e.vs ++ flat xs := rfl
    rw [h1] at h
    by_cases hj : j < 3
    · rw [List.getElem?_append_left (by simpa [Entry.vs] using hj)] at h
      have h2 : j / 3 = 0 := by omega
      have h3 : j % 3 = j := by omega
      rw [h2, h3]
      exact ⟨e, rfl, h⟩
    · rw [List.getElem?_append_right (by simp [Entry.vs]; omega)] at h
      have h2 : e.vs.length = 3 := rfl
      rw [h2] at h
      obtain ⟨f, hf, hv⟩ := flat_get xs (j - 3) u h
      have h4 : j / 3 = (j - 3) / 3 + 1 := by omega
      have h5 : j % 3 = (j - 3) % 3 := by omega
      exact ⟨f, by rw [h4]; exact hf, by rw [h5]; exact hv⟩
theorem flat_at : ∀ (xs : List Entry) (k : Nat) (e : Entry) (i : Nat) (v : Value), xs[k]? = some e → e.vs[i]? = some v → (flat xs)[k * 3 + i]? = some v
  | [], k, e, i, v, h, _ => by simp at h
  | f :: xs, 0, e, i, v, h, hv => by
    have : f = e := by simpa using h
    subst this
    have h1 : flat (f :: xs) = f.vs ++ flat xs := rfl
    have hi : i < f.vs.length := (List.getElem?_eq_some_iff.1 hv).1
    rw [h1, Nat.zero_mul, Nat.zero_add, List.getElem?_append_left hi]
    exact hv
  | f :: xs, k + 1, e, i, v, h, hv => by
    have h1 : flat (f :: xs) = f.vs ++ flat xs := rfl
    have h2 : f.vs.length = 3 := rfl
    rw [h1, List.getElem?_append_right (by omega), h2, show (k + 1) * 3 + i - 3 = k * 3 + i by omega]
    exact flat_at xs k e i v (by simpa using h) hv
theorem flat_one (xs : List Entry) : ∀ u ∈ flat xs, u.oneCell' = true := by
  intro u hu
  obtain ⟨e, _, hu⟩ := List.mem_flatMap.1 hu
  simp only [Entry.vs, List.mem_cons, List.not_mem_nil, or_false] at hu
  rcases hu with rfl | rfl | rfl <;> rfl
theorem add_lit (b off j : Nat) : (⟨b, off, none⟩ : Addr).add j = ⟨b, off + j, none⟩ := by unfold Addr.add; split <;> simp_all
theorem Tab.reads {w : World} {A : Option Addr} {xs : List Entry} (h : Tab w A xs) : Reads w w.heap.size 3 A xs.length (flat xs) := by
  refine ⟨flat_length xs, fun hn => ?_⟩
  obtain ⟨b, off, hA, hlt, hc⟩ := h.2 hn
  refine ⟨⟨b, off, none⟩, hA, hlt, fun j u hu => ?_⟩
  obtain ⟨e, he, hv⟩ := flat_get xs j u hu
  rw [add_lit]
  have := hc (j / 3) e he (j % 3) u hv
  rw [show off + j / 3 * 3 + j % 3 = off + j by omega] at this
  exact this
theorem tab_of_own {w : World} {base : Nat} {e : TypeId} {v : Value} {xs : List Entry} (h : w.ownsRow base e 3 v xs.length (flat xs)) (hok : ∀ e ∈ xs, e.ok) (hp : 0 < xs.length) :
    ∃ g cap, v = .slice (some ⟨g, 0, none⟩) xs.length cap ∧ Tab w (some ⟨g, 0, none⟩) xs ∧ xs.length ≤ cap := by
  obtain ⟨g, cap, rfl, _, hlt⟩ := h.form hp
  refine ⟨g, cap, rfl, ⟨hok, fun _ => ⟨g, 0, rfl, hlt, fun j f hf i v hv => ?_⟩⟩, ?_⟩
  · have := h.cells (g := g) rfl (j * 3 + i) v (flat_at xs j f i v hf hv)
    rw [add_lit] at this
    simpa [Nat.add_assoc] using this
  · rcases h.2 with ⟨h1, _⟩ | ⟨g', cap', cur, h1, _, _, hle, _⟩
    · cases h1
    · injection h1 with _ _ h3
      omega

theorem info_sum : (Try.prog.info? 88).map (fun i => (i.zero, i.size, i.bytes)) = some (some (.agg #[.string ⟨#[]⟩, .string ⟨#[]⟩, .int .u64 0]), 3, 40) := by kernel_rfl

theorem own_empty (w : World) : (w.alloc (.cells #[] 88)).ownsRow w.heap.size 88 3 (.slice (some ⟨w.heap.size, 0, none⟩) 0 0) 0 [] :=
  ⟨rfl, .inr ⟨w.heap.size, 0, #[], rfl, Nat.le_refl _, heap_alloc_new w _, Nat.le_refl _, by unfold maxLen; omega, rfl, rfl⟩⟩

def ClonePost (xs : List Entry) (w : World) (e : Ending) (w' : World) : Prop := ∃ v, e = .returned v ∧ w'.ownsRow w.heap.size 88 3 v xs.length (flat xs) ∧ Below w.heap.size w w'

set_option maxHeartbeats 1000000 in
set_option maxRecDepth 100000 in
theorem clone_any (xs : List Entry) (A : Option Addr) (c : Nat) (w : World) (hT : Tab w A xs) (hn : xs.length ≤ 8192) :
    Calls Try.prog 47 #[.slice A xs.length c] w (ClonePost xs w) := by
  obtain ⟨i0, hi0, hz0, hz1, hz2⟩ := info_parts info_sum
  cases A with
  | none =>
    have h0 : xs = [] := by
      cases xs with
      | nil => rfl
      | cons e xs => obtain ⟨_, _, h, _⟩ := hT.2 (by simp); cases h
    subst h0
    have hq := fun w : World => Lib.run_eql_slice_nil w _ _ none 0 c 0 0 Try.underlying25
    simp only [Option.isNone_none] at hq
    go_enter Try.func47, Try.ntmps47
    go_wp2
    go_ret
    exact ⟨_, rfl, ⟨by simp [flat], .inl ⟨rfl, rfl⟩⟩, Below.refl _ _⟩
  | some a =>
    have hq := fun w : World => Lib.run_eql_slice_nil w _ _ (some a) xs.length c 0 0 Try.underlying25
    simp only [Option.isNone_some] at hq
    have hr := (hT.reads).alloc (Nat.le_refl _) (.cells #[] 88)
    have hown0 := own_empty w
    have hk : xs.length ≤ maxLen := by unfold maxLen; omega
    have HH := Lib.hid (flat_one xs)
    have HR := Lib.hid hr
    have HO := Lib.hid hown0
    clear hr hT hown0
    go_enter Try.func47, Try.ntmps47
    go_wp2_with (at_builtin; refine wpList_append_any _ rfl (.tmp 5) (.tmp 6) _ rfl w.heap.size 88 i0 _ 3 40 Try.underlying25 hi0 hz0 hz1 hz2 rfl (by omega) (.slice (some ⟨w.heap.size, 0, none⟩) 0 0) 0 [] rfl HO.out w.heap.size (some a) xs.length c (flat xs) rfl HR.out HH.out (by simpa using hk) (by omega) (by simp) ?_; intro v1 w1 hown1 hg1 hat1)
    go_ret
    refine ⟨v1, rfl, by simpa using hown1, ?_⟩
    refine ((Below.refl _ _).alloc (Nat.le_refl _) _).grown hg1 (by simp) (fun k hk => ?_)
    simp [Value.ownBlock] at hk
    omega
end Go.Proofs.Ytcphcgkbjlgkiaa
