/- Keys of maps: a pair of texts; a number. The walk of keyed.Check. -/
import Derived.Test.YtcphcgkbjlgkiaaKeyedChk
import Derived.DeepKeys4
import Derived.Maps.OwnSet
import Derived.Maps.Views
import Derived.Maps.OwnOps
import Derived.Maps.Own
namespace Go.Proofs.Ytcphcgkbjlgkiaa
open Go.RowKit Go.Lib

theorem laidOutP : laidOutB Try.prog = true := by kernel_rfl
theorem types_many : ∃ m, Try.prog.types.size = m + 2 := by
  have h : (2 ≤ Try.prog.types.size) := of_decide_eq_true (by kernel_rfl)
  exact ⟨Try.prog.types.size - 2, by omega⟩
theorem pair_keyType : Try.prog.keyType 92 = true := by kernel_rfl
theorem pair_keyTypeAt : Try.prog.keyTypeAt 3 92 = true := by kernel_rfl
theorem pair_cells : Try.prog.cellsOf 92 = 2 := by kernel_rfl
theorem string_cells : Try.prog.cellsOf 9 = 1 := by kernel_rfl
theorem pair_keyed : Maps.Keyed Try.prog 92 :=
  Maps.Keyed.of_law (deep_law_laid laidOutP (m := 3) (by decide) (of_decide_eq_true (by kernel_rfl)) pair_keyTypeAt (by kernel_rfl))
def pk (a b : ByteArray) : Lit := .string (keyBytes [.string a.data.toList, .string b.data.toList])
theorem keyOf_pair (a b : ByteArray) (ha : a.size ≤ maxLen) (hb : b.size ≤ maxLen) : keyOf Try.prog 92 (.agg #[.string a, .string b]) = some (pk a b) := by
  obtain ⟨m, hm⟩ := types_many
  unfold keyOf
  rw [Try.underlying92, pair_keyType, hm]
  simp [Value.formed, Try.underlying92, pair_cells, Program.keyLits, string_cells, Try.underlying9, Value.cells, ha, hb, pk]
theorem pk_key (a b : ByteArray) : WideAt.IsKeyLit (pk a b) := trivial
theorem pk_inj {a b c d : ByteArray} (ha : a.size ≤ maxLen) (hb : b.size ≤ maxLen) (hc : c.size ≤ maxLen) (hd : d.size ≤ maxLen) (h : pk a b = pk c d) : a = c ∧ b = d := by
  have h1 := keyOf_pair a b ha hb
  rw [h] at h1
  have := pair_keyed.inj h1 (keyOf_pair c d hc hd)
  injection this with this
  simpa using this
theorem bytes_eq {a b : ByteArray} (h : a.toList = b.toList) : a = b := by
  rw [ByteArray.toList_eq, ByteArray.toList_eq] at h
  cases a; cases b
  simp only at h
  rw [Array.toList_inj.1 h]
/-- The keys of the first k entries. -/
def keysTo (xs : List Entry) (k : Nat) : List Lit := (xs.take k).map fun e => pk e.key e.text
theorem keysTo_succ {xs : List Entry} {k : Nat} {e : Entry} (he : xs[k]? = some e) : keysTo xs (k + 1) = keysTo xs k ++ [pk e.key e.text] := by
  obtain ⟨hlt, rfl⟩ := List.getElem?_eq_some_iff.1 he
  unfold keysTo; rw [List.take_succ_eq_append_getElem hlt, List.map_append]; rfl
theorem keysTo_isKey (xs : List Entry) (k : Nat) : ∀ x ∈ keysTo xs k, WideAt.IsKeyLit x := by
  intro x hx
  unfold keysTo at hx
  obtain ⟨e, _, rfl⟩ := List.mem_map.1 hx
  exact pk_key _ _
theorem seen_iff {H : Type} (u : DataW H) {xs : List Entry} {k : Nat} {e : Entry} (hok : ∀ f ∈ xs, f.ok) (he : e.ok) (_hk : k ≤ xs.length) :
    Maps.has (Maps.setOf u (keysTo xs k)) (pk e.key e.text) = true ↔ ∃ i f, i < k ∧ xs[i]? = some f ∧ Entry.is e.key e.text f = true := by
  rw [Maps.has_setOf u _ _ (keysTo_isKey xs k), List.any_eq_true]
  constructor
  · rintro ⟨x, hx, hs⟩
    unfold keysTo at hx
    obtain ⟨f, hf, rfl⟩ := List.mem_map.1 hx
    have hfx := List.mem_of_mem_take hf
    obtain ⟨e1, e2⟩ := pk_inj (hok f hfx).1 (hok f hfx).2.1 he.1 he.2.1 (WideAt.sameKey_eq hs)
    obtain ⟨i, hi, rfl⟩ := List.getElem_of_mem hf
    rw [List.length_take] at hi
    rw [List.getElem_take] at e1 e2
    refine ⟨i, xs[i]'(by omega), by omega, List.getElem?_eq_getElem (by omega), ?_⟩
    unfold Entry.is; rw [e1, e2]; simp
  · rintro ⟨i, f, hi, hf, hs⟩
    obtain ⟨hlt, rfl⟩ := List.getElem?_eq_some_iff.1 hf
    unfold Entry.is at hs
    rw [Bool.and_eq_true, beq_iff_eq, beq_iff_eq] at hs
    refine ⟨pk xs[i].key xs[i].text, ?_, ?_⟩
    · unfold keysTo
      refine List.mem_map.2 ⟨xs[i], ?_, rfl⟩
      exact List.mem_take_iff_getElem.2 ⟨i, by omega, rfl⟩
    · rw [bytes_eq hs.1, bytes_eq hs.2]
      exact WideAt.sameKey_self (pk_key _ _)
end Go.Proofs.Ytcphcgkbjlgkiaa

namespace Go.Proofs.Ytcphcgkbjlgkiaa
open Go.RowKit Go.Lib

theorem zero_unit (w : World) : (zeroValue 93).run Try.prog w = .ok (.agg #[]) w := by kernel_rfl

theorem run_makeMap_hint {P : Program} {t k e : TypeId} (hu : P.underlying t = some (.map k e)) (m : Int) (w : World) : (Instr.makeMap t (some (.int .i64 m))).run P w = .ok (.map (some w.heap.size)) (w.alloc (.map #[] 0)) := by
  simp [Instr.makeMap, run_underlying hu, asInt, asIntOf, Result.andThen]

/-- Block g is the set of the keys of the first k entries. -/
def SeenP (w : World) (g k : Nat) (xs : List Entry) : Prop := w.ownsMap (H := Unit) Try.prog 92 unitElem g k (Maps.setOf (.agg []) (keysTo xs k))
theorem SeenP.start (w : World) (xs : List Entry) : SeenP (w.alloc (.map #[] 0)) w.heap.size 0 xs := World.ownsMap_made w Try.prog 92 unitElem
theorem SeenP.start1 (w : World) (o : Obj) (xs : List Entry) : SeenP ((w.alloc o).alloc (.map #[] 0)) (w.heap.size + 1) 0 xs := by
  have := SeenP.start (w.alloc o) xs
  rw [World.size_alloc] at this
  exact this

set_option maxHeartbeats 2000000 in
set_option maxRecDepth 100000 in
theorem check_any (i : Bool) (xs : List Entry) (A : Option Addr) (c : Nat) (w : World) (hT : Tab w A xs) (hbig : xs.length ≤ 9223372036854775807) :
    Calls Try.prog 19 #[.agg #[.bool i, .slice A xs.length c]] w (ChkPost xs w) := by
  have hb1 : Below w.heap.size w (w.alloc (.cells #[.bool i, .slice A xs.length c] 27)) := (Below.refl _ _).alloc (Nat.le_refl _) _
  have HT := Lib.hid hT
  have HB1 := Lib.hid hb1
  clear hT hb1
  by_cases h4 : 4096 < xs.length
  · have h4i : (4096 : Int) < (xs.length : Int) := by omega
    go_enter Try.func19, Try.ntmps19
    go_wp2_with (fail)
    go_ret
    exact ⟨2, .inr ⟨rfl, fun h => absurd h.1 (by omega)⟩, rfl, HB1.out⟩
  · have h4i : ¬ (4096 : Int) < (xs.length : Int) := by omega
    have h4' : xs.length ≤ 4096 := by omega
    have hmm := run_makeMap_hint Try.underlying90
    clear h4
    go_enter Try.func19, Try.ntmps19
    go_wp2_with (fail)
    go_loopg [20] xs.length (fun gg s8 wr => ∃ kk : Nat, kk ≤ xs.length ∧ xs.length - kk ≤ gg ∧ s8 = .int .i64 kk ∧ SeenP wr (w.heap.size + 1) kk xs ∧ Aside (Below w.heap.size w wr) ∧ Aside (SndTo xs kk))
    case atStart => exact ⟨0, Nat.zero_le _, by omega, rfl, SeenP.start1 _ _ _, HB1.out.alloc HB1.out.size _, SndTo.zero _⟩
    case round =>
      obtain ⟨kk, hkk, hg, rfl, OM, BW, AA⟩ := hrel
      by_cases hlt : kk < xs.length
      · have hltz : (kk : Int) < (xs.length : Int) := by omega
        have HTr := HT.out.below BW.out
        obtain ⟨b, off, rfl, hbs, hcc⟩ := HTr.2 (by omega)
        obtain ⟨e, he⟩ : ∃ e, xs[kk]? = some e := ⟨_, List.getElem?_eq_getElem hlt⟩
        have hok := HTr.1 e (List.mem_of_getElem? he)
        have hks : (e.key.size : Int) ≤ 9223372036854775807 := by have := hok.1; unfold maxLen at this; omega
        have c0 : wr.cell? ⟨b, off + kk * 3, none⟩ = some (.string e.key) := hcc kk e he 0 _ rfl
        have c1 : wr.cell? ⟨b, off + kk * 3 + 1, none⟩ = some (.string e.text) := hcc kk e he 1 _ rfl
        have c2 : wr.cell? ⟨b, off + kk * 3 + 2, none⟩ = some (.int .u64 e.n) := hcc kk e he 2 _ rfl
        have hkey := keyOf_pair e.key e.text hok.1 hok.2.1
        have hseen := seen_iff (H := Unit) (.agg []) HTr.1 hok hkk
        have hown2 : SeenP ((wr.alloc (.cells #[.string e.key, .string e.text, .int .u64 e.n] 88)).alloc (.cells #[.string e.key, .string e.text] 92)) (w.heap.size + 1) kk xs := World.ownsMap.alloc (World.ownsMap.alloc OM _) _
        have hown3 : SeenP (((wr.alloc (.cells #[.string e.key, .string e.text, .int .u64 e.n] 88)).alloc (.cells #[.string e.key, .string e.text] 92)).alloc (.cells #[] 93)) (w.heap.size + 1) kk xs := World.ownsMap.alloc hown2 _
        obtain ⟨v, ps, hlook, hv⟩ := World.ownsMap.look_ok hown2 pair_keyed Try.underlying90 (zero_unit _) unitElem_mk hkey
        obtain ⟨rfl, _⟩ := unitElem_inv hv
        obtain ⟨w4, hstore, hown4, hgr⟩ := World.ownsMap.update hown3 pair_keyed Try.underlying90 (by unfold maxLen; omega) hkey (unitElem_mk (H := Unit))
        have hB3 : Below w.heap.size w (((wr.alloc (.cells #[.string e.key, .string e.text, .int .u64 e.n] 88)).alloc (.cells #[.string e.key, .string e.text] 92)).alloc (.cells #[] 93)) :=
          ((BW.out.alloc BW.out.size _).alloc (by have := BW.out.size; simp; omega) _).alloc (by have := BW.out.size; simp; omega) _
        have hB4 : Below w.heap.size w w4 := hB3.grown hgr hB3.size (fun k h => by cases h; omega)
        have HE := Lib.hid he
        have HO := Lib.hid hown4
        have HB3 := Lib.hid hB3
        have HB4 := Lib.hid hB4
        clear hcc HTr hok hkey hown2 hown3 hown4 OM hv hgr hB3 hB4
        by_cases hs : Maps.has (Maps.setOf (.agg [] : DataW Unit) (keysTo xs kk)) (pk e.key e.text) = true
        · have hbad : ¬ (xs.length ≤ 4096 ∧ SndTo xs xs.length) := fun h => by
            obtain ⟨j, f, hj, hf, hi⟩ := hseen.1 hs
            rw [(h.2 kk e hlt HE.out).2 j f hj hf] at hi
            cases hi
          have HBAD := Lib.hid hbad
          rw [hs] at hlook
          clear hbad hseen hs he hstore
          go_wp2_with (fail)
          go_ret
          exact ⟨2, .inr ⟨rfl, HBAD.out⟩, rfl, HB3.out⟩
        · have hfree : ∀ j f, j < kk → xs[j]? = some f → Entry.is e.key e.text f = false := fun j f hj hf => by
            cases h : Entry.is e.key e.text f with
            | false => rfl
            | true => exact absurd (hseen.2 ⟨j, f, hj, hf, h⟩) hs
          have HFREE := Lib.hid hfree
          have hs' : Maps.has (Maps.setOf (.agg [] : DataW Unit) (keysTo xs kk)) (pk e.key e.text) = false := by simpa using hs
          rw [hs'] at hlook
          clear hseen hs hs' he hfree
          by_cases h16 : e.key.size = 16
          · have h16i : ((e.key.size : Int) != 16) = false := by simp; omega
            have H16 := Lib.hid h16
            have f0 : (((wr.alloc (.cells #[.string e.key, .string e.text, .int .u64 e.n] 88)).alloc (.cells #[.string e.key, .string e.text] 92)).alloc (.cells #[] 93)).cell? ⟨wr.heap.size + 1, 0, none⟩ = some (.string e.key) := by
              rw [World.cell?_alloc_past _ _ _ (by simp), World.cell?_alloc_at _ _ _ _ (by simp)]; rfl
            clear h16
            go_wp2_with (fail)
            go_roundg (xs.length - (kk + 1))
            case measure => omega
            case rel =>
              refine ⟨kk + 1, by omega, by omega, by go_num, ?_, HB4.out, AA.out.succ HE.out H16.out HFREE.out⟩
              unfold SeenP
              rw [keysTo_succ HE.out, Maps.setOf_snoc]
              exact HO.out
          · have h16i : ((e.key.size : Int) != 16) = true := by simp; omega
            have hbad : ¬ (xs.length ≤ 4096 ∧ SndTo xs xs.length) := fun h => h16 (h.2 kk e hlt HE.out).1
            have HBAD := Lib.hid hbad
            clear h16 hbad
            go_wp2_with (fail)
            go_ret
            exact ⟨2, .inr ⟨rfl, HBAD.out⟩, rfl, HB3.out⟩
      · obtain rfl : kk = xs.length := by omega
        clear hlt
        go_wp2_with (fail)
        go_ret
        exact ⟨0, .inl ⟨rfl, h4', AA.out⟩, rfl, BW.out⟩
end Go.Proofs.Ytcphcgkbjlgkiaa
