/- Lists of options in memory; the walks of edns' right, coded, and of slices.IndexFunc at options. -/
import Derived.Test.YtgfpnkakglgokaaRet
import Derived.Test.YtgfpnkakglgokaaBase
import Derived.Test.YtgfpnkakglgokaaChecked
import Derived.Lib.SliceRun
import Derived.OwnWalk
import Derived.Deep.LoopGhost
import Derived.Deep.Light
import Derived.Outline
import Derived.Deep.QuietTactic
import Derived.BigQuiet
import Derived.Shelf.Abstract
import Derived.Laws.Cells
namespace Go.Proofs.Ytgfpnkakglgokaa
open Go.RowKit Go.Lib

/-- An option. -/
structure Opt where
  c : Int
  d : ByteArray
def Opt.ok (o : Opt) : Prop := (0 ≤ o.c ∧ o.c ≤ 65535) ∧ o.d.size ≤ maxLen
def Opt.vs (o : Opt) : List Value := [.int .u16 o.c, .string o.d]
def Opt.is (k : Int) (o : Opt) : Bool := o.c == k
/-- A slice that reads as options. -/
def OTab (w : World) (A : Option Addr) (xs : List Opt) : Prop :=
  (∀ e ∈ xs, e.ok) ∧ (0 < xs.length → ∃ b off, A = some ⟨b, off, none⟩ ∧ b < w.heap.size ∧ ∀ (j : Nat) (e : Opt), xs[j]? = some e → ∀ i v, e.vs[i]? = some v → w.cell? ⟨b, off + j * 2 + i, none⟩ = some v)
theorem OTab.below {w w' : World} {A : Option Addr} {xs : List Opt} (h : OTab w A xs) (hb : Below w.heap.size w w') : OTab w' A xs := by
  refine ⟨h.1, fun hn => ?_⟩
  obtain ⟨b, off, hA, hlt, hc⟩ := h.2 hn
  refine ⟨b, off, hA, Nat.lt_of_lt_of_le hlt hb.size, fun j e he i v hv => ?_⟩
  rw [hb.cell (p := ⟨b, off + j * 2 + i, none⟩) hlt]
  exact hc j e he i v hv
/-- The first place at which p holds; -1: there is none. -/
def idxP {α : Type} (p : α → Bool) (xs : List α) : Int := match xs.findIdx? p with | some i => (i : Int) | none => -1
theorem idxP_hit {α : Type} {p : α → Bool} {xs : List α} {k : Nat} {e : α} (hk : xs[k]? = some e) (he : p e = true) (hn : ∀ j f, j < k → xs[j]? = some f → p f = false) : idxP p xs = k := by
  have hlt := (List.getElem?_eq_some_iff.1 hk).1
  have : xs.findIdx? p = some k := by
    rw [List.findIdx?_eq_some_iff_getElem]
    refine ⟨hlt, by rw [(List.getElem?_eq_some_iff.1 hk).2]; exact he, fun j hj => ?_⟩
    rw [hn j _ hj (List.getElem?_eq_getElem (by omega))]; simp
  unfold idxP; rw [this]
theorem idxP_miss {α : Type} {p : α → Bool} {xs : List α} (hn : ∀ j f, j < xs.length → xs[j]? = some f → p f = false) : idxP p xs = -1 := by
  have : xs.findIdx? p = none := by
    rw [List.findIdx?_eq_none_iff]
    intro x hx
    obtain ⟨j, hj, rfl⟩ := List.getElem_of_mem hx
    exact hn j _ hj (List.getElem?_eq_getElem hj)
  unfold idxP; rw [this]
theorem idxP_cases {α : Type} (p : α → Bool) (xs : List α) : (idxP p xs = -1 ∧ xs.find? p = none) ∨ ∃ (k : Nat) (e : α), idxP p xs = k ∧ xs[k]? = some e ∧ p e = true ∧ xs.find? p = some e := by
  unfold idxP
  cases h : xs.findIdx? p with
  | none =>
    left
    rw [List.findIdx?_eq_none_iff] at h
    exact ⟨rfl, List.find?_eq_none.2 fun x hx => by rw [h x hx]; simp⟩
  | some i =>
    right
    rw [List.findIdx?_eq_some_iff_getElem] at h
    obtain ⟨hi, hp, hn⟩ := h
    refine ⟨i, xs[i], rfl, List.getElem?_eq_getElem hi, hp, ?_⟩
    rw [List.find?_eq_some_iff_getElem]
    exact ⟨hp, i, hi, rfl, fun j hj => by have := hn j hj; simpa using this⟩

theorem coded1_any (k c : Int) (d : ByteArray) (B : Nat) (W : World) (hB : B < W.heap.size) (hk : W.cell? ⟨B, 0, none⟩ = some (.int .u16 k)) :
    Calls Try.prog 62 #[.agg #[.int .u16 c, .string d], .pointer (some ⟨B, 0, none⟩)] W fun e w' => e = .returned (.bool (c == k)) ∧ Below W.heap.size W w' := by
  have hne : B ≠ W.heap.size := by omega
  go_enter Try.func62, Try.ntmps62
  go_wp2
  go_ret
  exact ⟨rfl, (Below.refl _ _).alloc (Nat.le_refl _) _⟩

theorem coded_any (k : Int) (W : World) :
    Calls Try.prog 43 #[.int .u16 k] W fun e w' => e = .returned (.func (.func 62) #[] #[.pointer (some ⟨W.heap.size, 0, none⟩)]) ∧ w' = W.alloc (.cells #[.int .u16 k] 31) := by
  go_enter Try.func43, Try.ntmps43
  go_wp2
  go_ret
  exact ⟨rfl, rfl⟩

set_option maxHeartbeats 1000000 in
set_option maxRecDepth 100000 in
theorem indexO_any (xs : List Opt) (A : Option Addr) (c : Nat) (k : Int) (B : Nat) (w : World)
    (hT : OTab w A xs) (hB : B < w.heap.size) (hk : w.cell? ⟨B, 0, none⟩ = some (.int .u16 k)) (hbig : xs.length ≤ 9223372036854775807) :
    Calls Try.prog 42 #[.slice A xs.length c, .func (.func 62) #[] #[.pointer (some ⟨B, 0, none⟩)]] w fun e w' => e = .returned (.int .i64 (idxP (Opt.is k) xs)) ∧ Below w.heap.size w w' := by
  have HT := Lib.hid hT
  have HK := Lib.hid (And.intro hB hk)
  clear hT hB hk
  go_enter Try.func42, Try.ntmps42
  go_wp2
  go_loopg [5, 8] xs.length (fun gg _ s8 wr => ∃ kk : Nat, kk ≤ xs.length ∧ xs.length - kk ≤ gg ∧ s8 = .int .i64 kk ∧ Aside (Below w.heap.size w wr) ∧ Aside (∀ j f, j < kk → xs[j]? = some f → Opt.is k f = false))
  case atStart => exact ⟨0, Nat.zero_le _, by omega, rfl, Below.refl _ w, fun j _ hj => absurd hj (Nat.not_lt_zero _)⟩
  case round =>
    obtain ⟨kk, hkk, hg, rfl, BW, AA⟩ := hrel
    by_cases hlt : kk < xs.length
    · have hltz : (kk : Int) < (xs.length : Int) := by omega
      have HTr := HT.out.below BW.out
      obtain ⟨b, off, rfl, hbs, hc⟩ := HTr.2 (by omega)
      obtain ⟨e, he⟩ : ∃ e, xs[kk]? = some e := ⟨_, List.getElem?_eq_getElem hlt⟩
      have c0 : wr.cell? ⟨b, off + kk * 2, none⟩ = some (.int .u16 e.c) := hc kk e he 0 _ rfl
      have c1 : wr.cell? ⟨b, off + kk * 2 + 1, none⟩ = some (.string e.d) := hc kk e he 1 _ rfl
      have hcall := coded1_any k e.c e.d B wr (Nat.lt_of_lt_of_le HK.out.1 BW.out.size) ((BW.out.cell (p := ⟨B, 0, none⟩) HK.out.1).trans HK.out.2)
      have HE := Lib.hid he
      have hsize := BW.out.size
      clear hc HTr he
      cases hq : Opt.is k e with
      | true =>
        have hq2 : (e.c == k) = true := hq
        rw [hq2] at hcall
        have HQ := Lib.hid hq
        clear hq hq2
        go_wp2_with (fail)
        with_reducible refine hcall.mono ?_
        rintro e w' ⟨rfl, hb'⟩
        go_wp2_with (fail)
        go_ret
        refine ⟨?_, BW.out.trans (hb'.mono hsize)⟩
        rw [idxP_hit HE.out HQ.out AA.out]; rfl
      | false =>
        have hq2 : (e.c == k) = false := hq
        rw [hq2] at hcall
        have HQ := Lib.hid hq
        clear hq hq2
        go_wp2_with (fail)
        with_reducible refine hcall.mono ?_
        rintro e w' ⟨rfl, hb'⟩
        go_wp2_with (fail)
        go_roundg (xs.length - (kk + 1))
        case measure => omega
        case rel =>
          refine ⟨kk + 1, by omega, by omega, by go_num, BW.out.trans (hb'.mono hsize), (show Aside _ from fun j f hj hf => ?_)⟩
          by_cases h : j = kk
          · subst h
            rw [HE.out] at hf
            cases hf
            exact HQ.out
          · exact AA.out j f (by omega) hf
    · obtain rfl : kk = xs.length := by omega
      clear hlt
      go_wp2
      go_ret
      refine ⟨?_, BW.out⟩
      rw [idxP_miss AA.out]; rfl

/-- May these be cookies? -/
def rightB (c s : ByteArray) : Bool := (c.size == 8) && ((s.size == 0) || (decide (8 ≤ s.size) && decide (s.size ≤ 32)))
theorem empty_iff (s : ByteArray) : s.toList.isEmpty = (s.size == 0) := by
  rw [ByteArray.toList_eq, Bool.eq_iff_iff, beq_iff_eq, List.isEmpty_iff]
  constructor
  · intro h
    have := congrArg List.length h
    simpa using this
  · intro h
    exact List.eq_nil_of_length_eq_zero (by simpa using h)
end Go.Proofs.Ytgfpnkakglgokaa
