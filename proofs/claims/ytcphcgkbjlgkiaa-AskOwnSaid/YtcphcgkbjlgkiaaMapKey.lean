/- Keys of maps: a pair of texts; a number. -/
import Derived.Test.YtcphcgkbjlgkiaaKeyedChk
import Derived.DeepKeys4
import Derived.Maps.OwnSet
import Derived.Maps.Views
import Derived.Maps.OwnOps
namespace Go.Proofs.Ytcphcgkbjlgkiaa
open Go.RowKit Go.Lib

theorem laidOutP : laidOutB Try.prog = true := by kernel_rfl
theorem types_many : ∃ m, Try.prog.types.size = m + 2 := by
  have h : (2 ≤ Try.prog.types.size) := of_decide_eq_true (by kernel_rfl)
  exact ⟨Try.prog.types.size - 2, by omega⟩
theorem pair_keyType : Try.prog.keyType 92 = true := by kernel_rfl
theorem pair_keyTypeAt : Try.prog.keyTypeAt 3 92 = true := by kernel_rfl
theorem pair_cells : Try.prog.cellsOf 92 = 2 := by kernel_rfl
theorem string_cells : Try.prog.cellsOf 9 = 1 := by kernel_rfl
theorem pair_keyed : Maps.Keyed Try.prog 92 :=
  Maps.Keyed.of_law (deep_law_laid laidOutP (m := 3) (by decide) (of_decide_eq_true (by kernel_rfl)) pair_keyTypeAt (by kernel_rfl))
def pk (a b : ByteArray) : Lit := .string (keyBytes [.string a.data.toList, .string b.data.toList])
theorem keyOf_pair (a b : ByteArray) (ha : a.size ≤ maxLen) (hb : b.size ≤ maxLen) : keyOf Try.prog 92 (.agg #[.string a, .string b]) = some (pk a b) := by
  obtain ⟨m, hm⟩ := types_many
  unfold keyOf
  rw [Try.underlying92, pair_keyType, hm]
  simp [Value.formed, Try.underlying92, pair_cells, Program.keyLits, string_cells, Try.underlying9, Value.cells, ha, hb, pk]
theorem pk_key (a b : ByteArray) : WideAt.IsKeyLit (pk a b) := trivial
theorem pk_inj {a b c d : ByteArray} (ha : a.size ≤ maxLen) (hb : b.size ≤ maxLen) (hc : c.size ≤ maxLen) (hd : d.size ≤ maxLen) (h : pk a b = pk c d) : a = c ∧ b = d := by
  have h1 := keyOf_pair a b ha hb
  rw [h] at h1
  have := pair_keyed.inj h1 (keyOf_pair c d hc hd)
  injection this with this
  simpa using this
theorem bytes_eq {a b : ByteArray} (h : a.toList = b.toList) : a = b := by
  rw [ByteArray.toList_eq, ByteArray.toList_eq] at h
  cases a; cases b
  simp only at h
  rw [Array.toList_inj.1 h]
/-- The keys of the first k entries. -/
def keysTo (xs : List Entry) (k : Nat) : List Lit := (xs.take k).map fun e => pk e.key e.text
theorem keysTo_succ {xs : List Entry} {k : Nat} {e : Entry} (he : xs[k]? = some e) : keysTo xs (k + 1) = keysTo xs k ++ [pk e.key e.text] := by
  obtain ⟨hlt, rfl⟩ := List.getElem?_eq_some_iff.1 he
  unfold keysTo; rw [List.take_succ_eq_append_getElem hlt, List.map_append]; rfl
theorem keysTo_isKey (xs : List Entry) (k : Nat) : ∀ x ∈ keysTo xs k, WideAt.IsKeyLit x := by
  intro x hx
  unfold keysTo at hx
  obtain ⟨e, _, rfl⟩ := List.mem_map.1 hx
  exact pk_key _ _
theorem seen_iff {H : Type} (u : DataW H) {xs : List Entry} {k : Nat} {e : Entry} (hok : ∀ f ∈ xs, f.ok) (he : e.ok) (_hk : k ≤ xs.length) :
    Maps.has (Maps.setOf u (keysTo xs k)) (pk e.key e.text) = true ↔ ∃ i f, i < k ∧ xs[i]? = some f ∧ Entry.is e.key e.text f = true := by
  rw [Maps.has_setOf u _ _ (keysTo_isKey xs k), List.any_eq_true]
  constructor
  · rintro ⟨x, hx, hs⟩
    unfold keysTo at hx
    obtain ⟨f, hf, rfl⟩ := List.mem_map.1 hx
    have hfx := List.mem_of_mem_take hf
    obtain ⟨e1, e2⟩ := pk_inj (hok f hfx).1 (hok f hfx).2.1 he.1 he.2.1 (WideAt.sameKey_eq hs)
    obtain ⟨i, hi, rfl⟩ := List.getElem_of_mem hf
    rw [List.length_take] at hi
    rw [List.getElem_take] at e1 e2
    refine ⟨i, xs[i]'(by omega), by omega, List.getElem?_eq_getElem (by omega), ?_⟩
    unfold Entry.is; rw [e1, e2]; simp
  · rintro ⟨i, f, hi, hf, hs⟩
    obtain ⟨hlt, rfl⟩ := List.getElem?_eq_some_iff.1 hf
    unfold Entry.is at hs
    rw [Bool.and_eq_true, beq_iff_eq, beq_iff_eq] at hs
    refine ⟨pk xs[i].key xs[i].text, ?_, ?_⟩
    · unfold keysTo
      refine List.mem_map.2 ⟨xs[i], ?_, rfl⟩
      exact List.mem_take_iff_getElem.2 ⟨i, by omega, rfl⟩
    · rw [bytes_eq hs.1, bytes_eq hs.2]
      exact WideAt.sameKey_self (pk_key _ _)
end Go.Proofs.Ytcphcgkbjlgkiaa
