/- The walks of keyed.Of, and of the reference's Of and Known. The walk of the reference's Check of a hash. -/
import Derived.Test.YtcphcgkbjlgkiaaFind
import Derived.Test.YtcphcgkbjlgkiaaSum
import Derived.Test.YtcphcgkbjlgkiaaRefSum
namespace Go.Proofs.Ytcphcgkbjlgkiaa
open Go.RowKit Go.Lib

/-- A sum by a hash. -/
def ofN (i : Bool) (xs : List Entry) (k s : ByteArray) : Int := if sumE k.data.toList s.data.toList = 0 ∧ i = true then findN (Entry.is k s) xs else sumN k.data.toList s.data.toList
theorem idxOf_cases (p : Entry → Bool) (xs : List Entry) : (idxOf p xs = -1 ∧ findN p xs = 0 ∧ xs.any p = false) ∨ ∃ (k : Nat) (e : Entry), idxOf p xs = k ∧ xs[k]? = some e ∧ findN p xs = e.n ∧ p e = true ∧ xs.any p = true := by
  cases h : xs.findIdx? p with
  | none =>
    left
    have h2 : ∀ j f, j < xs.length → xs[j]? = some f → p f = false := by
      rw [List.findIdx?_eq_none_iff] at h
      exact fun j f _ hf => h f (List.mem_of_getElem? hf)
    exact ⟨idxOf_miss h2, findN_miss h2, any_miss h2⟩
  | some k =>
    right
    rw [List.findIdx?_eq_some_iff_getElem] at h
    obtain ⟨hk, hp, hn⟩ := h
    have hn2 : ∀ j f, j < k → xs[j]? = some f → p f = false := by
      intro j f hj hf
      have := hn j hj
      rw [(List.getElem?_eq_some_iff.1 hf).2] at this
      simpa using this
    exact ⟨k, xs[k], idxOf_hit (List.getElem?_eq_getElem hk) hp hn2, List.getElem?_eq_getElem hk, findN_hit (List.getElem?_eq_getElem hk) hp hn2, hp, any_hit (List.getElem?_eq_getElem hk) hp⟩

theorem sum_x {x y : Int} {key text : ByteArray} (h1 : sumN key.data.toList text.data.toList = x) (h2 : sumE key.data.toList text.data.toList = y) (hk : key.size ≤ 9223372036854775807) (hs : text.size ≤ 9223372036854775807) (w : World) :
    Calls Try.prog 15 #[.string key, .string text] w fun e w' => e = .returned (.tuple #[.int .u64 x, .int .i64 y]) ∧ Below w.heap.size w w' := by
  subst h1 h2; exact Sum_any key text hk hs w
theorem rsum_x {x y : Int} {key text : ByteArray} (h1 : sumN key.data.toList text.data.toList = x) (h2 : sumE key.data.toList text.data.toList = y) (hk : key.size ≤ 9223372036854775807) (hs : text.size ≤ 9223372036854775807) (w : World) :
    Calls Try.prog 86 #[.string key, .string text] w fun e w' => e = .returned (.tuple #[.int .u64 x, .int .i64 y]) ∧ Below w.heap.size w w' := by
  subst h1 h2; exact rSum_any key text hk hs w

set_option maxHeartbeats 1000000 in
set_option maxRecDepth 100000 in
theorem of_hash (i : Bool) (xs : List Entry) (A : Option Addr) (c : Nat) (key text : ByteArray) (w : World) (hT : Tab w A xs) (hbig : xs.length ≤ 9223372036854775807) (hk : key.size ≤ 9223372036854775807) (hs : text.size ≤ 9223372036854775807) :
    Calls Try.prog 17 #[.agg #[.bool i, .slice A xs.length c], .string key, .string text] w fun e w' =>
      e = .returned (.tuple #[.int .u64 (ofN i xs key text), .int .i64 (sumE key.data.toList text.data.toList)]) ∧ Below w.heap.size w w' := by
  have hb1 : Below w.heap.size w (w.alloc (.cells #[.bool i, .slice A xs.length c] 27)) := (Below.refl _ _).alloc (Nat.le_refl _) _
  have HS := Lib.hid (fun x y h1 h2 => sum_x (x := x) (y := y) h1 h2 hk hs)
  have HT := Lib.hid hT
  have HB1 := Lib.hid hb1
  unfold ofN
  generalize h1 : sumN key.data.toList text.data.toList = x
  generalize h2 : sumE key.data.toList text.data.toList = y
  have HSum := Lib.hid (HS.out x y h1 h2)
  clear HS h1 h2 hb1 hT
  by_cases hy : y = 0 ∧ i = true
  · obtain ⟨rfl, rfl⟩ := hy
    rw [if_pos ⟨rfl, rfl⟩]
    go_enter Try.func17, Try.ntmps17
    go_wp2_with (fail)
    refine (HSum.out _).mono ?_
    rintro e w2 ⟨rfl, hb2⟩
    obtain ⟨hc, hf⟩ : (∀ b o, b < w.heap.size + 1 → w2.cell? ⟨b, o, none⟩ = _) ∧ True := ⟨fun b o h => hb2.cell (p := ⟨b, o, none⟩) (by simpa using h), trivial⟩
    have d0 := hc w.heap.size 0 (by omega)
    have d1 := hc w.heap.size 1 (by omega)
    simp at d0 d1
    have HB2 := Lib.hid (HB1.out.trans (hb2.mono (by simp)))
    have hs2 : w.heap.size + 1 ≤ w2.heap.size := by simpa using hb2.size
    have HT2 := Lib.hid (HT.out.below HB2.out)
    clear hc hf hb2 HT
    rcases idxOf_cases (Entry.is key text) xs with ⟨e1, e2, _⟩ | ⟨k, e, e1, he, e2, _, _⟩
    · have hp : ∀ W, Tab W A xs → Calls Try.prog 48 #[.agg #[.bool true, .slice A xs.length c], .string key, .string text] W fun e w' => e = .returned (.int .i64 (-1)) ∧ Below W.heap.size W w' := fun W h => by
        have := place_any true xs A c key text W h hbig
        rw [e1] at this
        exact this
      have HP := Lib.hid hp
      have E2 := Lib.hid e2
      clear hp e1 e2
      go_wp2_with (fail)
      refine (HP.out _ HT2.out).mono ?_
      rintro e w3 ⟨rfl, hb3⟩
      have HB3 := Lib.hid (HB2.out.trans (hb3.mono HB2.out.size))
      clear hb3
      go_wp2_with (fail)
      go_ret2
      exact ⟨by rw [E2.out]; rfl, HB3.out⟩
    · have hlt := (List.getElem?_eq_some_iff.1 he).1
      have hp : ∀ W, Tab W A xs → Calls Try.prog 48 #[.agg #[.bool true, .slice A xs.length c], .string key, .string text] W fun e w' => e = .returned (.int .i64 (k : Int)) ∧ Below W.heap.size W w' := fun W h => by
        have := place_any true xs A c key text W h hbig
        rw [e1] at this
        exact this
      have HP := Lib.hid hp
      have E2 := Lib.hid e2
      clear hp e1 e2
      go_wp2_with (fail)
      refine (HP.out _ HT2.out).mono ?_
      rintro e' w3 ⟨rfl, hb3⟩
      have HB3 := Lib.hid (HB2.out.trans (hb3.mono HB2.out.size))
      obtain ⟨b, off, rfl, hbs, hcc⟩ := (HT2.out.below hb3).2 (by omega)
      have c2 : w3.cell? ⟨b, off + k * 3 + 2, none⟩ = some (.int .u64 e.n) := hcc k e he 2 _ rfl
      have d3 : w3.cell? ⟨w.heap.size, 1, none⟩ = some (.slice (some ⟨b, off, none⟩) xs.length c) := (hb3.cell (p := ⟨w.heap.size, 1, none⟩) (by show w.heap.size < _; omega)).trans d1
      have hki : (k : Int) < (xs.length : Int) := by omega
      clear hb3 hcc he
      go_wp2_with (fail)
      go_ret2
      exact ⟨by rw [E2.out]; rfl, HB3.out⟩
  · rw [if_neg hy]
    go_enter Try.func17, Try.ntmps17
    go_wp2_with (fail)
    refine (HSum.out _).mono ?_
    rintro e w2 ⟨rfl, hb2⟩
    obtain ⟨hc, hf⟩ : (∀ b o, b < w.heap.size + 1 → w2.cell? ⟨b, o, none⟩ = _) ∧ True := ⟨fun b o h => hb2.cell (p := ⟨b, o, none⟩) (by simpa using h), trivial⟩
    have d0 := hc w.heap.size 0 (by omega)
    simp at d0
    have HB2 := Lib.hid (HB1.out.trans (hb2.mono (by simp)))
    have hy' : (y != 0) = true ∨ ((y != 0) = false ∧ i = false) := by
      rcases Int.decEq y 0 with h | h
      · left; simpa using h
      · right; refine ⟨by simpa using h, ?_⟩; cases i with | false => rfl | true => exact absurd ⟨h, rfl⟩ hy
    clear hc hf hb2 hy
    rcases hy' with hy' | ⟨hy', rfl⟩
    · go_wp2_with (fail)
      go_ret2
      exact ⟨rfl, HB2.out⟩
    · go_wp2_with (fail)
      go_ret2
      exact ⟨rfl, HB2.out⟩

set_option maxHeartbeats 1000000 in
set_option maxRecDepth 100000 in
theorem rof_hash (i : Bool) (xs : List Entry) (A : Option Addr) (c : Nat) (key text : ByteArray) (w : World) (hT : Tab w A xs) (hbig : xs.length ≤ 9223372036854775807) (hk : key.size ≤ 9223372036854775807) (hs : text.size ≤ 9223372036854775807) :
    Calls Try.prog 49 #[.agg #[.bool i, .slice A xs.length c], .string key, .string text] w fun e w' =>
      e = .returned (.tuple #[.int .u64 (ofN i xs key text), .int .i64 (sumE key.data.toList text.data.toList)]) ∧ Below w.heap.size w w' := by
  have hb1 : Below w.heap.size w (w.alloc (.cells #[.bool i, .slice A xs.length c] 27)) := (Below.refl _ _).alloc (Nat.le_refl _) _
  have HS := Lib.hid (fun x y h1 h2 => rsum_x (x := x) (y := y) h1 h2 hk hs)
  have HT := Lib.hid hT
  have HB1 := Lib.hid hb1
  unfold ofN
  generalize h1 : sumN key.data.toList text.data.toList = x
  generalize h2 : sumE key.data.toList text.data.toList = y
  have HSum := Lib.hid (HS.out x y h1 h2)
  clear HS h1 h2 hb1 hT
  by_cases hy : y = 0 ∧ i = true
  · obtain ⟨rfl, rfl⟩ := hy
    rw [if_pos ⟨rfl, rfl⟩]
    go_enter Try.func49, Try.ntmps49
    go_wp2_with (fail)
    refine (HSum.out _).mono ?_
    rintro e w2 ⟨rfl, hb2⟩
    obtain ⟨hc, hf⟩ : (∀ b o, b < w.heap.size + 1 → w2.cell? ⟨b, o, none⟩ = _) ∧ True := ⟨fun b o h => hb2.cell (p := ⟨b, o, none⟩) (by simpa using h), trivial⟩
    have d0 := hc w.heap.size 0 (by omega)
    have d1 := hc w.heap.size 1 (by omega)
    simp at d0 d1
    have HB2 := Lib.hid (HB1.out.trans (hb2.mono (by simp)))
    have HF := Lib.hid (find_any true xs A c key text _ (HT.out.below HB2.out) hbig)
    clear hc hf hb2 HT
    go_wp2_with (fail)
    refine HF.out.mono ?_
    rintro e w3 ⟨rfl, hb3⟩
    have HB3 := Lib.hid (HB2.out.trans (hb3.mono HB2.out.size))
    clear hb3
    go_wp2_with (fail)
    go_ret2
    exact ⟨rfl, HB3.out⟩
  · rw [if_neg hy]
    go_enter Try.func49, Try.ntmps49
    go_wp2_with (fail)
    refine (HSum.out _).mono ?_
    rintro e w2 ⟨rfl, hb2⟩
    obtain ⟨hc, hf⟩ : (∀ b o, b < w.heap.size + 1 → w2.cell? ⟨b, o, none⟩ = _) ∧ True := ⟨fun b o h => hb2.cell (p := ⟨b, o, none⟩) (by simpa using h), trivial⟩
    have d0 := hc w.heap.size 0 (by omega)
    simp at d0
    have HB2 := Lib.hid (HB1.out.trans (hb2.mono (by simp)))
    have hy' : (y == 0) = false ∨ ((y == 0) = true ∧ i = false) := by
      rcases Int.decEq y 0 with h | h
      · left; simpa using h
      · right; refine ⟨by simpa using h, ?_⟩; cases i with | false => rfl | true => exact absurd ⟨h, rfl⟩ hy
    clear hc hf hb2 hy
    rcases hy' with hy' | ⟨hy', rfl⟩
    · go_wp2_with (fail)
      go_ret2
      exact ⟨rfl, HB2.out⟩
    · go_wp2_with (fail)
      go_ret2
      exact ⟨rfl, HB2.out⟩
end Go.Proofs.Ytcphcgkbjlgkiaa

namespace Go.Proofs.Ytcphcgkbjlgkiaa
open Go.RowKit Go.Lib

theorem is_no1 {e f : Entry} (h : ¬ e.key.toList = f.key.toList) : Entry.is e.key e.text f = false := by
  unfold Entry.is; rw [Bool.and_eq_false_iff]; left; exact beq_eq_false_iff_ne.2 fun h2 => h h2.symm
theorem is_no2 {e f : Entry} (h : (e.text.toList == f.text.toList) = false) : Entry.is e.key e.text f = false := by
  unfold Entry.is; rw [Bool.and_eq_false_iff]; right; exact beq_eq_false_iff_ne.2 fun h2 => beq_eq_false_iff_ne.1 h h2.symm
theorem is_yes {e f : Entry} (h : e.key.toList = f.key.toList) (h2 : (e.text.toList == f.text.toList) = true) : Entry.is e.key e.text f = true := by
  unfold Entry.is; rw [Bool.and_eq_true]; exact ⟨beq_iff_eq.2 h.symm, beq_iff_eq.2 (beq_iff_eq.1 h2).symm⟩

/-- The first k entries have right keys, and no two are of one key and text. -/
def SndTo (xs : List Entry) (k : Nat) : Prop := ∀ j e, j < k → xs[j]? = some e → e.key.size = 16 ∧ ∀ i f, i < j → xs[i]? = some f → Entry.is e.key e.text f = false
theorem SndTo.zero (xs : List Entry) : SndTo xs 0 := fun _ _ hj => absurd hj (Nat.not_lt_zero _)
theorem SndTo.succ {xs : List Entry} {k : Nat} {e : Entry} (h : SndTo xs k) (he : xs[k]? = some e) (h16 : e.key.size = 16) (hn : ∀ i f, i < k → xs[i]? = some f → Entry.is e.key e.text f = false) : SndTo xs (k + 1) := by
  intro j f hj hf
  by_cases hk : j = k
  · subst hk; rw [he] at hf; cases hf; exact ⟨h16, hn⟩
  · exact h j f (by omega) hf
/-- Check's answer. -/
def ChkIs (xs : List Entry) (v : Int) : Prop := (v = 0 ∧ xs.length ≤ 4096 ∧ SndTo xs xs.length) ∨ (v = 2 ∧ ¬ (xs.length ≤ 4096 ∧ SndTo xs xs.length))
theorem ChkIs.eq {xs : List Entry} {u v : Int} (h : ChkIs xs u) (h' : ChkIs xs v) : u = v := by
  rcases h with ⟨rfl, a⟩ | ⟨rfl, a⟩ <;> rcases h' with ⟨rfl, b⟩ | ⟨rfl, b⟩ <;> first | rfl | exact absurd a b | exact absurd b a
def ChkPost (xs : List Entry) (w : World) (e : Ending) (w' : World) : Prop := ∃ v, ChkIs xs v ∧ e = .returned (.int .i64 v) ∧ Below w.heap.size w w'

end Go.Proofs.Ytcphcgkbjlgkiaa
