/- The walks of keyed.Apart and of the reference's Apart. -/
import Derived.Test.YtcphcgkbjlgkiaaKeyedMap
namespace Go.Proofs.Ytcphcgkbjlgkiaa
open Go.RowKit Go.Lib

/-- The sums of the first k entries are not 0, and no two are one. -/
def ApTo (xs : List Entry) (k : Nat) : Prop := ∀ j e, j < k → xs[j]? = some e → e.n ≠ 0 ∧ ∀ i f, i < j → xs[i]? = some f → f.n ≠ e.n
theorem ApTo.zero (xs : List Entry) : ApTo xs 0 := fun _ _ hj => absurd hj (Nat.not_lt_zero _)
theorem ApTo.succ {xs : List Entry} {k : Nat} {e : Entry} (h : ApTo xs k) (he : xs[k]? = some e) (h0 : e.n ≠ 0) (hn : ∀ i f, i < k → xs[i]? = some f → f.n ≠ e.n) : ApTo xs (k + 1) := by
  intro j f hj hf
  by_cases hk : j = k
  · subst hk; rw [he] at hf; cases hf; exact ⟨h0, hn⟩
  · exact h j f (by omega) hf
def Ap (xs : List Entry) : Prop := (xs.length ≤ 4096 ∧ SndTo xs xs.length) ∧ ApTo xs xs.length
def ApIs (xs : List Entry) (v : Bool) : Prop := (v = true ∧ Ap xs) ∨ (v = false ∧ ¬ Ap xs)
theorem ApIs.eq {xs : List Entry} {u v : Bool} (h : ApIs xs u) (h' : ApIs xs v) : u = v := by
  rcases h with ⟨rfl, a⟩ | ⟨rfl, a⟩ <;> rcases h' with ⟨rfl, b⟩ | ⟨rfl, b⟩ <;> first | rfl | exact absurd a b | exact absurd b a
def ApPost (xs : List Entry) (w : World) (e : Ending) (w' : World) : Prop := ∃ v, ApIs xs v ∧ e = .returned (.bool v) ∧ Below w.heap.size w w'

theorem u64_keyed : Maps.Keyed Try.prog 29 := Maps.int_keyed Try.underlying29
/-- The sums of the first k entries, as keys. -/
def numsTo (xs : List Entry) (k : Nat) : List Lit := (xs.take k).map fun e => Lit.int .u64 e.n
theorem numsTo_succ {xs : List Entry} {k : Nat} {e : Entry} (he : xs[k]? = some e) : numsTo xs (k + 1) = numsTo xs k ++ [Lit.int .u64 e.n] := by
  obtain ⟨hlt, rfl⟩ := List.getElem?_eq_some_iff.1 he
  unfold numsTo; rw [List.take_succ_eq_append_getElem hlt, List.map_append]; rfl
theorem numsTo_isKey (xs : List Entry) (k : Nat) : ∀ x ∈ numsTo xs k, WideAt.IsKeyLit x := by
  intro x hx
  unfold numsTo at hx
  obtain ⟨e, _, rfl⟩ := List.mem_map.1 hx
  trivial
theorem numSeen_iff {H : Type} (u : DataW H) {xs : List Entry} {k : Nat} {e : Entry} :
    Maps.has (Maps.setOf u (numsTo xs k)) (Lit.int .u64 e.n) = true ↔ ∃ i f, i < k ∧ xs[i]? = some f ∧ f.n = e.n := by
  rw [Maps.has_setOf u _ _ (numsTo_isKey xs k), List.any_eq_true]
  constructor
  · rintro ⟨x, hx, hs⟩
    unfold numsTo at hx
    obtain ⟨f, hf, rfl⟩ := List.mem_map.1 hx
    have e1 := WideAt.sameKey_eq hs
    obtain ⟨i, hi, rfl⟩ := List.getElem_of_mem hf
    rw [List.length_take] at hi
    rw [List.getElem_take] at e1
    refine ⟨i, xs[i]'(by omega), by omega, List.getElem?_eq_getElem (by omega), ?_⟩
    injection e1
  · rintro ⟨i, f, hi, hf, hs⟩
    obtain ⟨hlt, rfl⟩ := List.getElem?_eq_some_iff.1 hf
    refine ⟨Lit.int .u64 xs[i].n, ?_, ?_⟩
    · unfold numsTo
      exact List.mem_map.2 ⟨xs[i], List.mem_take_iff_getElem.2 ⟨i, by omega, rfl⟩, rfl⟩
    · rw [hs]; exact WideAt.sameKey_self trivial
/-- Block g is the set of the sums of the first k entries. -/
def SeenN (w : World) (g k : Nat) (xs : List Entry) : Prop := w.ownsMap (H := Unit) Try.prog 29 unitElem g k (Maps.setOf (.agg []) (numsTo xs k))
theorem SeenN.start (w : World) (xs : List Entry) : SeenN (w.alloc (.map #[] 0)) w.heap.size 0 xs := World.ownsMap_made w Try.prog 29 unitElem
theorem u64_wf {n : Int} (h0 : 0 ≤ n) (h1 : n ≤ 18446744073709551615) : (Lit.int .u64 n).wf = true := by
  simp [Lit.wf, IntKind.min, IntKind.max, IntKind.signed, IntKind.bits]; omega

set_option maxHeartbeats 2000000 in
set_option maxRecDepth 100000 in
theorem apart_any (i : Bool) (xs : List Entry) (A : Option Addr) (c : Nat) (w : World) (hT : Tab w A xs) (hbig : xs.length ≤ 9223372036854775807) :
    Calls Try.prog 30 #[.agg #[.bool i, .slice A xs.length c]] w (ApPost xs w) := by
  have hb1 : Below w.heap.size w (w.alloc (.cells #[.bool i, .slice A xs.length c] 27)) := (Below.refl _ _).alloc (Nat.le_refl _) _
  have HT := Lib.hid hT
  have HB1 := Lib.hid hb1
  have HC := Lib.hid (check_any i xs A c _ (hT.below hb1) hbig)
  have hmm := run_makeMap_hint Try.underlying108
  clear hT hb1
  go_enter Try.func30, Try.ntmps30
  go_wp2_with (fail)
  refine HC.out.mono ?_
  rintro e w2 ⟨v, hv, rfl, hb2⟩
  have d1 : w2.cell? ⟨w.heap.size, 1, none⟩ = some (.slice A xs.length c) := by
    rw [hb2.cell (p := ⟨w.heap.size, 1, none⟩) (by simp)]; simp
  have hsw : w.heap.size < w2.heap.size := by have := hb2.size; simp at this; omega
  have HB2 := Lib.hid (HB1.out.trans (hb2.mono (by simp)))
  clear hb2
  rcases hv with ⟨rfl, hgood⟩ | ⟨rfl, hbad⟩
  · have HG := Lib.hid hgood
    clear hgood
    go_wp2_with (fail)
    go_loopg [18] xs.length (fun gg s8 wr => ∃ kk : Nat, kk ≤ xs.length ∧ xs.length - kk ≤ gg ∧ s8 = .int .i64 kk ∧ SeenN wr w2.heap.size kk xs ∧ Aside (Below w.heap.size w wr) ∧ Aside (ApTo xs kk))
    case atStart => exact ⟨0, Nat.zero_le _, by omega, rfl, SeenN.start _ _, HB2.out.alloc HB2.out.size _, ApTo.zero _⟩
    case round =>
      obtain ⟨kk, hkk, hg, rfl, OM, BW, AA⟩ := hrel
      by_cases hlt : kk < xs.length
      · have hltz : (kk : Int) < (xs.length : Int) := by omega
        have h4k : xs.length ≤ 4096 := HG.out.1
        have HTr := HT.out.below BW.out
        obtain ⟨b, off, rfl, hbs, hcc⟩ := HTr.2 (by omega)
        obtain ⟨e, he⟩ : ∃ e, xs[kk]? = some e := ⟨_, List.getElem?_eq_getElem hlt⟩
        have hok := HTr.1 e (List.mem_of_getElem? he)
        have c0 : wr.cell? ⟨b, off + kk * 3, none⟩ = some (.string e.key) := hcc kk e he 0 _ rfl
        have c1 : wr.cell? ⟨b, off + kk * 3 + 1, none⟩ = some (.string e.text) := hcc kk e he 1 _ rfl
        have c2 : wr.cell? ⟨b, off + kk * 3 + 2, none⟩ = some (.int .u64 e.n) := hcc kk e he 2 _ rfl
        have hkey := Maps.keyOf_int_mk Try.underlying29 (u64_wf hok.2.2.1 hok.2.2.2)
        have hseen := numSeen_iff (H := Unit) (.agg []) (xs := xs) (k := kk) (e := e)
        have hown2 : SeenN (wr.alloc (.cells #[.string e.key, .string e.text, .int .u64 e.n] 88)) w2.heap.size kk xs := World.ownsMap.alloc OM _
        have hown3 : SeenN ((wr.alloc (.cells #[.string e.key, .string e.text, .int .u64 e.n] 88)).alloc (.cells #[] 93)) w2.heap.size kk xs := World.ownsMap.alloc hown2 _
        obtain ⟨v, ps, hlook, hv⟩ := World.ownsMap.look_ok hown2 u64_keyed Try.underlying108 (zero_unit _) unitElem_mk hkey
        obtain ⟨rfl, _⟩ := unitElem_inv hv
        obtain ⟨w4, hstore, hown4, hgr⟩ := World.ownsMap.update hown3 u64_keyed Try.underlying108 (by unfold maxLen; omega) hkey (unitElem_mk (H := Unit))
        have hB3 : Below w.heap.size w ((wr.alloc (.cells #[.string e.key, .string e.text, .int .u64 e.n] 88)).alloc (.cells #[] 93)) :=
          (BW.out.alloc BW.out.size _).alloc (by have := BW.out.size; simp; omega) _
        have hB4 : Below w.heap.size w w4 := hB3.grown hgr hB3.size (fun k h => by cases h; omega)
        have HE := Lib.hid he
        have HO := Lib.hid hown4
        have HB3 := Lib.hid hB3
        have HB4 := Lib.hid hB4
        clear hcc HTr hok hkey hown2 hown3 hown4 OM hv hgr hB3 hB4 h4k
        by_cases hs : Maps.has (Maps.setOf (.agg [] : DataW Unit) (numsTo xs kk)) (Lit.int .u64 e.n) = true
        · have hbad : ¬ Ap xs := fun h => by
            obtain ⟨j, f, hj, hf, hi⟩ := hseen.1 hs
            exact (h.2 kk e hlt HE.out).2 j f hj hf hi
          have HBAD := Lib.hid hbad
          rw [hs] at hlook
          clear hbad hseen hs he hstore
          go_wp2_with (fail)
          go_ret
          exact ⟨false, .inr ⟨rfl, HBAD.out⟩, rfl, HB3.out⟩
        · have hfree : ∀ j f, j < kk → xs[j]? = some f → f.n ≠ e.n := fun j f hj hf h => hs (hseen.2 ⟨j, f, hj, hf, h⟩)
          have HFREE := Lib.hid hfree
          have hs' : Maps.has (Maps.setOf (.agg [] : DataW Unit) (numsTo xs kk)) (Lit.int .u64 e.n) = false := by simpa using hs
          rw [hs'] at hlook
          clear hseen hs hs' he hfree
          by_cases h0 : e.n = 0
          · have h0i : (e.n == 0) = true := by simpa using h0
            have hbad : ¬ Ap xs := fun h => (h.2 kk e hlt HE.out).1 h0
            have HBAD := Lib.hid hbad
            clear h0 hbad
            go_wp2_with (fail)
            go_ret
            exact ⟨false, .inr ⟨rfl, HBAD.out⟩, rfl, HB3.out⟩
          · have h0i : (e.n == 0) = false := by simpa using h0
            have H0 := Lib.hid h0
            clear h0
            go_wp2_with (fail)
            go_roundg (xs.length - (kk + 1))
            case measure => omega
            case rel =>
              refine ⟨kk + 1, by omega, by omega, by go_num, ?_, HB4.out, AA.out.succ HE.out H0.out HFREE.out⟩
              unfold SeenN
              rw [numsTo_succ HE.out, Maps.setOf_snoc]
              exact HO.out
      · obtain rfl : kk = xs.length := by omega
        clear hlt
        go_wp2_with (fail)
        go_ret
        exact ⟨true, .inl ⟨rfl, HG.out, AA.out⟩, rfl, BW.out⟩
  · have HBAD := Lib.hid hbad
    clear hbad
    go_wp2_with (fail)
    go_ret
    exact ⟨false, .inr ⟨rfl, fun h => HBAD.out h.1⟩, rfl, HB2.out⟩
end Go.Proofs.Ytcphcgkbjlgkiaa
