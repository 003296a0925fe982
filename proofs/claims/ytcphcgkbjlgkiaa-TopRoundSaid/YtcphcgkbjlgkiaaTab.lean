/- Tables of sums in memory; the walks of keyed's place and Known, of slices.IndexFunc at such a table, and of the reference's find. -/
import Derived.Test.YtcphcgkbjlgkiaaRet
import Derived.Test.YtcphcgkbjlgkiaaBase
import Derived.Test.YtcphcgkbjlgkiaaChecked
import Derived.Lib.SliceRun
import Derived.OwnWalk
import Derived.Deep.LoopGhost
import Derived.Deep.Light
import Derived.Outline
import Derived.Deep.QuietTactic
import Derived.BigQuiet
import Derived.Shelf.Abstract
import Derived.Laws.Cells
namespace Go.Proofs.Ytcphcgkbjlgkiaa
open Go.RowKit Go.Lib

/-- An entry of a table. -/
structure Entry where
  key : ByteArray
  text : ByteArray
  n : Int
def Entry.ok (e : Entry) : Prop := e.key.size ≤ maxLen ∧ e.text.size ≤ maxLen ∧ 0 ≤ e.n ∧ e.n ≤ 18446744073709551615
def Entry.vs (e : Entry) : List Value := [.string e.key, .string e.text, .int .u64 e.n]
def Entry.is (key text : ByteArray) (e : Entry) : Bool := e.key.toList == key.toList && e.text.toList == text.toList

/-- A load of k cells, in whatever world holds them, as the walk meets it. -/
theorem load_cells (P : Program) (W : World) (a : Addr) (cs : List Value) (k : Nat) (hk : cs.length = k) (h : ∀ j v, cs[j]? = some v → W.cell? (a.add j) = some v) :
    Sem.run P (loadCellsFrom a 0 k #[]) W = .ok cs.toArray W := by
  have := run_loadCells_list (P := P) (w := W) a cs h
  rw [hk] at this
  simpa [loadCells] using this

/-- A slice that reads as a table. -/
def Tab (w : World) (A : Option Addr) (xs : List Entry) : Prop :=
  (∀ e ∈ xs, e.ok) ∧ (0 < xs.length → ∃ b off, A = some ⟨b, off, none⟩ ∧ b < w.heap.size ∧ ∀ (j : Nat) (e : Entry), xs[j]? = some e → ∀ i v, e.vs[i]? = some v → w.cell? ⟨b, off + j * 3 + i, none⟩ = some v)
theorem Tab.below {w w' : World} {A : Option Addr} {xs : List Entry} (h : Tab w A xs) (hb : Below w.heap.size w w') : Tab w' A xs := by
  refine ⟨h.1, fun hn => ?_⟩
  obtain ⟨b, off, hA, hlt, hc⟩ := h.2 hn
  refine ⟨b, off, hA, Nat.lt_of_lt_of_le hlt hb.size, fun j e he i v hv => ?_⟩
  rw [hb.cell (p := ⟨b, off + j * 3 + i, none⟩) hlt]
  exact hc j e he i v hv
theorem Tab.load {w : World} {b off : Nat} {xs : List Entry} {P : Program} (h : ∀ (j : Nat) (e : Entry), xs[j]? = some e → ∀ i v, e.vs[i]? = some v → w.cell? ⟨b, off + j * 3 + i, none⟩ = some v) (k : Nat) (e : Entry) (he : xs[k]? = some e) :
    Sem.run P (loadCellsFrom ⟨b, off + k * 3, none⟩ 0 3 #[]) w = .ok #[.string e.key, .string e.text, .int .u64 e.n] w :=
  load_cells P _ _ e.vs 3 rfl (fun i v hi => by
    rw [Addr.add_lit]
    exact h k e he i v hi)

/-- The first place at which p holds; -1: there is none. -/
def idxOf (p : Entry → Bool) (xs : List Entry) : Int := match xs.findIdx? p with | some i => (i : Int) | none => -1
theorem idxOf_hit {p : Entry → Bool} {xs : List Entry} {k : Nat} {e : Entry} (hk : xs[k]? = some e) (he : p e = true) (hn : ∀ j f, j < k → xs[j]? = some f → p f = false) : idxOf p xs = k := by
  have hlt := (List.getElem?_eq_some_iff.1 hk).1
  have : xs.findIdx? p = some k := by
    rw [List.findIdx?_eq_some_iff_getElem]
    refine ⟨hlt, by rw [(List.getElem?_eq_some_iff.1 hk).2]; exact he, fun j hj => ?_⟩
    rw [hn j _ hj (List.getElem?_eq_getElem (by omega))]; simp
  unfold idxOf; rw [this]
theorem idxOf_miss {p : Entry → Bool} {xs : List Entry} (hn : ∀ j f, j < xs.length → xs[j]? = some f → p f = false) : idxOf p xs = -1 := by
  have : xs.findIdx? p = none := by
    rw [List.findIdx?_eq_none_iff]
    intro x hx
    obtain ⟨j, hj, rfl⟩ := List.getElem_of_mem hx
    exact hn j _ hj (List.getElem?_eq_getElem hj)
  unfold idxOf; rw [this]

theorem idxOf_any (p : Entry → Bool) (xs : List Entry) : decide (0 ≤ idxOf p xs) = xs.any p := by
  rw [Bool.eq_iff_iff, decide_eq_true_eq, List.any_eq_true]
  unfold idxOf
  cases h : xs.findIdx? p with
  | none =>
    rw [List.findIdx?_eq_none_iff] at h
    constructor
    · intro h2; exact absurd h2 (by decide)
    · rintro ⟨x, hx, hp⟩; rw [h x hx] at hp; cases hp
  | some i =>
    rw [List.findIdx?_eq_some_iff_getElem] at h
    obtain ⟨hi, hp, _⟩ := h
    exact ⟨fun _ => ⟨_, List.getElem_mem hi, hp⟩, fun _ => Int.natCast_nonneg _⟩

/-- What is asked of a predicate: it answers, and leaves what lay there. -/
def Pred (g : Nat) (lb : Array Value) (p : Entry → Bool) (w : World) : Prop :=
  ∀ (W : World) (e : Entry), e.ok → Below w.heap.size w W → Calls Try.prog g (#[.agg e.vs.toArray] ++ lb) W fun r w' => r = .returned (.bool (p e)) ∧ Below w.heap.size w w'

set_option maxHeartbeats 1000000 in
theorem indexFunc_any (xs : List Entry) (A : Option Addr) (c : Nat) (p : Entry → Bool) (g : Nat) (lb : Array Value) (eg : ∀ args w, (callFunc g args).run Try.prog w = .ok (.enter g args) w) (w : World)
    (hT : Tab w A xs) (hp : Pred g lb p w) (hbig : xs.length ≤ 9223372036854775807) :
    Calls Try.prog 84 #[.slice A xs.length c, .func (.func g) #[] lb] w fun e w' => e = .returned (.int .i64 (idxOf p xs)) ∧ Below w.heap.size w w' := by
  have HT := Lib.hid hT
  clear hT
  go_enter Try.func84, Try.ntmps84
  go_wp2
  go_loopg [5, 8] xs.length (fun gg _ s8 wr => ∃ kk : Nat, kk ≤ xs.length ∧ xs.length - kk ≤ gg ∧ s8 = .int .i64 kk ∧ Aside (Below w.heap.size w wr) ∧ Aside (∀ j f, j < kk → xs[j]? = some f → p f = false))
  case atStart => exact ⟨0, Nat.zero_le _, by omega, rfl, Below.refl _ w, fun j _ hj => absurd hj (Nat.not_lt_zero _)⟩
  case round =>
    obtain ⟨kk, hkk, hg, rfl, BW, AA⟩ := hrel
    by_cases hlt : kk < xs.length
    · have hltz : (kk : Int) < (xs.length : Int) := by omega
      have HTr := HT.out.below BW.out
      obtain ⟨b, off, rfl, hbs, hc⟩ := HTr.2 (by omega)
      obtain ⟨e, he⟩ : ∃ e, xs[kk]? = some e := ⟨_, List.getElem?_eq_getElem hlt⟩
      have hok := HTr.1 e (List.mem_of_getElem? he)
      have c0 : wr.cell? ⟨b, off + kk * 3, none⟩ = some (.string e.key) := hc kk e he 0 _ rfl
      have c1 : wr.cell? ⟨b, off + kk * 3 + 1, none⟩ = some (.string e.text) := hc kk e he 1 _ rfl
      have c2 : wr.cell? ⟨b, off + kk * 3 + 2, none⟩ = some (.int .u64 e.n) := hc kk e he 2 _ rfl
      have hcall := hp wr e hok BW.out
      unfold Entry.vs at hcall
      have HE := Lib.hid he
      clear hc hp HTr hok he
      cases hq : p e with
      | true =>
        rw [hq] at hcall
        go_wp2_with (go_at_fn g; refine hcall.mono ?_; rintro e w' ⟨rfl, hb'⟩)
        go_ret
        refine ⟨?_, hb'⟩
        rw [idxOf_hit HE.out hq AA.out]; rfl
      | false =>
        rw [hq] at hcall
        go_wp2_with (go_at_fn g; refine hcall.mono ?_; rintro e w' ⟨rfl, hb'⟩)
        go_roundg (xs.length - (kk + 1))
        case measure => omega
        case rel =>
          refine ⟨kk + 1, by omega, by omega, by go_num, hb', (show Aside _ from fun j f hj hf => ?_)⟩
          by_cases h : j = kk
          · subst h
            rw [HE.out] at hf
            cases hf
            exact hq
          · exact AA.out j f (by omega) hf
    · obtain rfl : kk = xs.length := by omega
      clear hlt
      go_wp2
      go_ret
      refine ⟨?_, BW.out⟩
      rw [idxOf_miss AA.out]; rfl

set_option maxHeartbeats 1000000 in
theorem place1_any (key text : ByteArray) (B : Nat) (w : World) (hB : B + 1 < w.heap.size) (hk : w.cell? ⟨B, 0, none⟩ = some (.string key)) (ht : w.cell? ⟨B + 1, 0, none⟩ = some (.string text)) :
    Pred 85 #[.pointer (some ⟨B, 0, none⟩), .pointer (some ⟨B + 1, 0, none⟩)] (Entry.is key text) w := fun W e _ hb => by
  have hk2 : W.cell? ⟨B, 0, none⟩ = some (.string key) := (hb.cell (p := ⟨B, 0, none⟩) (by show B < _; omega)).trans hk
  have ht2 : W.cell? ⟨B + 1, 0, none⟩ = some (.string text) := (hb.cell (p := ⟨B + 1, 0, none⟩) hB).trans ht
  have hBW : B + 1 < W.heap.size := Nat.lt_of_lt_of_le hB hb.size
  have hB0 : B < W.heap.size := by omega
  have hne : B ≠ W.heap.size := by omega
  have hne2 : B + 1 ≠ W.heap.size := by omega
  clear hk ht hB
  show Calls Try.prog 85 #[.agg #[.string e.key, .string e.text, .int .u64 e.n], .pointer (some ⟨B, 0, none⟩), .pointer (some ⟨B + 1, 0, none⟩)] W _
  unfold Entry.is
  go_enter Try.func85, Try.ntmps85
  go_wp2
  all_goals
    go_ret
    exact ⟨ret_b (by simp [*]), hb.alloc hb.size _⟩

/-- A hash as a value. -/
def hashV (i : Bool) (A : Option Addr) (n c : Nat) : Value := .agg #[.bool i, .slice A n c]

set_option maxHeartbeats 1000000 in
theorem place_any (i : Bool) (xs : List Entry) (A : Option Addr) (c : Nat) (key text : ByteArray) (w : World) (hT : Tab w A xs) (hbig : xs.length ≤ 9223372036854775807) :
    Calls Try.prog 48 #[.agg #[.bool i, .slice A xs.length c], .string key, .string text] w fun e w' => e = .returned (.int .i64 (idxOf (Entry.is key text) xs)) ∧ Below w.heap.size w w' := by
  have hb3 : Below w.heap.size w (((w.alloc (.cells #[.bool i, .slice A xs.length c] 27)).alloc (.cells #[.string key] 9)).alloc (.cells #[.string text] 9)) :=
    (((Below.refl _ _).alloc (Nat.le_refl _) _).alloc (by simp) _).alloc (by simp; omega) _
  have hcon := indexFunc_any xs A c (Entry.is key text) 85 #[.pointer (some ⟨w.heap.size + 1, 0, none⟩), .pointer (some ⟨w.heap.size + 1 + 1, 0, none⟩)] (enters_of Try.func85 (by kernel_rfl) rfl) _ (hT.below hb3)
    (place1_any key text (w.heap.size + 1) _ (by simp) (by rw [World.cell?_alloc_past _ _ _ (by simp), World.cell?_alloc_at _ _ _ _ (by simp)]; rfl) (by rw [World.cell?_alloc_at _ _ _ _ (by simp)]; rfl)) hbig
  have HB := Lib.hid hb3
  have HC := Lib.hid hcon
  clear hb3 hcon hT
  go_enter Try.func48, Try.ntmps48
  go_wp2_with (fail)
  refine HC.out.mono ?_
  rintro e w' ⟨rfl, hb'⟩
  go_wp2
  go_ret
  exact ⟨rfl, HB.out.trans (hb'.mono (by simp; omega))⟩

set_option maxHeartbeats 1000000 in
theorem known_any (i : Bool) (xs : List Entry) (A : Option Addr) (c : Nat) (key text : ByteArray) (w : World) (hT : Tab w A xs) (hbig : xs.length ≤ 9223372036854775807) :
    Calls Try.prog 18 #[.agg #[.bool i, .slice A xs.length c], .string key, .string text] w fun e w' => e = .returned (.bool (xs.any (Entry.is key text))) ∧ Below w.heap.size w w' := by
  have hb3 : Below w.heap.size w (w.alloc (.cells #[.bool i, .slice A xs.length c] 27)) := (Below.refl _ _).alloc (Nat.le_refl _) _
  have hT2 := hT.below hb3
  have HT := Lib.hid hT2
  have HB := Lib.hid hb3
  clear hb3 hT2 hT
  go_enter Try.func18, Try.ntmps18
  go_wp2_with (go_at_call 48; refine (place_any i xs A c key text _ HT.out hbig).mono ?_; rintro e w' ⟨rfl, hb'⟩)
  go_ret
  exact ⟨ret_b (idxOf_any _ _), HB.out.trans (hb'.mono (by simp))⟩
end Go.Proofs.Ytcphcgkbjlgkiaa
