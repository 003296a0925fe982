/- The walks of keyed.Put and of the reference's Put. The walk of the reference's Put. -/
import Derived.Test.YtcphcgkbjlgkiaaClone
namespace Go.Proofs.Ytcphcgkbjlgkiaa
open Go.RowKit Go.Lib

/-- Put's answer: why not, and the new table. -/
def putE (xs : List Entry) (k s : ByteArray) : Int := if sumE k.data.toList s.data.toList ≠ 0 then sumE k.data.toList s.data.toList else if xs.any (Entry.is k s) = true then 4 else if 4096 ≤ xs.length then 8 else 0
def putL (xs : List Entry) (k s : ByteArray) (n : Int) : List Entry := if putE xs k s = 0 then xs ++ [⟨k, s, n⟩] else []
def PutPost (xs : List Entry) (k s : ByteArray) (n : Int) (w : World) (e : Ending) (w' : World) : Prop :=
  ∃ (A : Option Addr) (c : Nat), e = .returned (.tuple #[.agg #[.bool (decide (putE xs k s = 0)), .slice A (putL xs k s n).length c], .int .i64 (putE xs k s)]) ∧ Tab w' A (putL xs k s n) ∧ (putL xs k s n).length ≤ c ∧ Below w.heap.size w w'
theorem tab_nil (w : World) (A : Option Addr) : Tab w A [] := ⟨fun _ h => absurd h (by simp), fun h => absurd h (by simp)⟩
theorem put_no {xs : List Entry} {k s : ByteArray} {n v : Int} {w w' : World} (hv : putE xs k s = v) (h0 : v ≠ 0) (hb : Below w.heap.size w w') :
    PutPost xs k s n w (.returned (.tuple #[.agg #[.bool false, .slice none 0 0], .int .i64 v])) w' := by
  have h1 : putL xs k s n = [] := by unfold putL; rw [if_neg (by rw [hv]; exact h0)]
  refine ⟨none, 0, ?_, ?_, ?_, hb⟩
  · rw [h1, hv]; simp [h0]
  · rw [h1]; exact tab_nil _ _
  · rw [h1]; exact Nat.le_refl _
theorem put_yes {xs : List Entry} {k s : ByteArray} {n : Int} {w w' : World} {g cap : Nat} (hv : putE xs k s = 0) (hT : Tab w' (some ⟨g, 0, none⟩) (xs ++ [⟨k, s, n⟩])) (hc : xs.length + 1 ≤ cap) (hb : Below w.heap.size w w') :
    PutPost xs k s n w (.returned (.tuple #[.agg #[.bool true, .slice (some ⟨g, 0, none⟩) (xs.length + 1) cap], .int .i64 0])) w' := by
  have h1 : putL xs k s n = xs ++ [⟨k, s, n⟩] := by unfold putL; rw [if_pos hv]
  refine ⟨some ⟨g, 0, none⟩, cap, ?_, ?_, ?_, hb⟩
  · rw [h1, hv]; simp
  · rw [h1]; exact hT
  · rw [h1]; simpa using hc

/-- Two blocks that the call made, behind a call. -/
theorem two_below {w w2 : World} {C Z : Array Value} {t u : TypeId} (hb : Below (w.heap.size + 1 + 1) ((w.alloc (.cells C t)).alloc (.cells Z u)) w2) :
    Blk w2 w.heap.size t C ∧ Blk w2 (w.heap.size + 1) u Z ∧ w.heap.size + 1 + 1 ≤ w2.heap.size ∧ Below w.heap.size w w2 := by
  have hz : (w.alloc (.cells C t)).heap.size = w.heap.size + 1 := World.size_alloc ..
  have h1 : Blk ((w.alloc (.cells C t)).alloc (.cells Z u)) w.heap.size t C := (Blk.new w t C).alloc _
  have h2 : Blk ((w.alloc (.cells C t)).alloc (.cells Z u)) (w.heap.size + 1) u Z := by have := Blk.new (w.alloc (.cells C t)) u Z; rw [hz] at this; exact this
  refine ⟨h1.below hb (by omega), h2.below hb (by omega), by simpa using hb.size, ?_⟩
  exact (((Below.refl _ _).alloc (Nat.le_refl _) _).alloc (by simp) _).trans (hb.mono (by omega))

theorem tab_new (w : World) (e : Entry) (h : e.ok) : Tab (w.alloc (.cells #[.string e.key, .string e.text, .int .u64 e.n] 88)) (some ⟨w.heap.size, 0, none⟩) [e] := by
  refine ⟨fun f hf => by rw [List.mem_singleton.1 hf]; exact h, fun _ => ⟨w.heap.size, 0, rfl, by simp, fun j f hf i v hv => ?_⟩⟩
  match j, hf with
  | 0, hf =>
    have : e = f := by simpa using hf
    subst this
    have := (Blk.new w 88 #[.string e.key, .string e.text, .int .u64 e.n]).cell i
    simp only [Nat.zero_mul, Nat.zero_add]
    rw [this]
    simpa [Entry.vs] using hv
  | j + 1, hf => simp at hf
theorem Tab.far {w : World} {g off : Nat} {xs : List Entry} (h : Tab w (some ⟨g, off, none⟩) xs) {p : Addr} (hp : p.block ≠ g) (u : Value) : Tab (w.setCell p u) (some ⟨g, off, none⟩) xs := by
  refine ⟨h.1, fun hn => ?_⟩
  obtain ⟨b, o, hA, hlt, hc⟩ := h.2 hn
  injection hA with hA
  injection hA with h1 h2
  subst h1 h2
  refine ⟨g, off, rfl, by simpa using hlt, fun j e he i v hv => ?_⟩
  rw [World.cell?_setCell_other w p ⟨g, off + j * 3 + i, none⟩ u (fun e => hp (by rw [e]))]
  exact hc j e he i v hv
theorem own_put {w : World} {base : Nat} {t : TypeId} {v : Value} {xs : List Entry} {e : Entry} (h : w.ownsRow base t 3 v (xs.length + 1) (flat xs ++ flat [e])) (hok : ∀ f ∈ xs, f.ok) (he : e.ok) :
    ∃ g cap, v = .slice (some ⟨g, 0, none⟩) (xs.length + 1) cap ∧ Tab w (some ⟨g, 0, none⟩) (xs ++ [e]) ∧ xs.length + 1 ≤ cap ∧ base ≤ g := by
  have h2 : w.ownsRow base t 3 v (xs ++ [e]).length (flat (xs ++ [e])) := by rw [flat_append, List.length_append]; exact h
  obtain ⟨g, cap, h3, h4, h5⟩ := tab_of_own h2 (fun f hf => by
    rcases List.mem_append.1 hf with hf | hf
    · exact hok f hf
    · rw [List.mem_singleton.1 hf]; exact he) (by simp)
  exact ⟨g, cap, by rw [h3]; simp, h4, by simpa using h5, own_ge h2 g (by rw [h3]; rfl)⟩
theorem two_set {w2 : World} {g : Nat} {t : TypeId} {x y : Value} (hB : Blk w2 g t #[x, y]) (a b : Value) :
    (w2.setCell ⟨g, 0, none⟩ a).cell? ⟨g, 0, none⟩ = some a ∧ ((w2.setCell ⟨g, 0, none⟩ a).setCell ⟨g, 1, none⟩ b).cell? ⟨g, 0, none⟩ = some a ∧ ((w2.setCell ⟨g, 0, none⟩ a).setCell ⟨g, 1, none⟩ b).cell? ⟨g, 1, none⟩ = some b :=
  ⟨(hB.set_ 0 a).cell 0, ((hB.set_ 0 a).set_ 1 b).cell 0, ((hB.set_ 0 a).set_ 1 b).cell 1⟩
theorem two_set_below {B : Nat} {w w2 : World} {g : Nat} (h : Below B w w2) (hg : B ≤ g) (a b : Value) : Below B w ((w2.setCell ⟨g, 0, none⟩ a).setCell ⟨g, 1, none⟩ b) :=
  (h.setCell (p := ⟨g, 0, none⟩) hg a).setCell (p := ⟨g, 1, none⟩) hg b

set_option maxHeartbeats 2000000 in
set_option maxRecDepth 100000 in
theorem put_any (i : Bool) (xs : List Entry) (A : Option Addr) (c : Nat) (key text : ByteArray) (n : Int) (w : World) (hT : Tab w A xs) (hbig : xs.length ≤ 9223372036854775807) (hk : key.size ≤ 9223372036854775807) (hs : text.size ≤ 9223372036854775807) (hn : 0 ≤ n ∧ n ≤ 18446744073709551615) :
    Calls Try.prog 16 #[.agg #[.bool i, .slice A xs.length c], .string key, .string text, .int .u64 n] w (PutPost xs key text n w) := by
  have hb0 : Below w.heap.size w (w.alloc (.cells #[.bool i, .slice A xs.length c] 27)) := (Below.refl _ _).alloc (Nat.le_refl _) _
  obtain ⟨i0, hi0, hz0, hz1, hz2⟩ := info_parts info_sum
  have HS := Lib.hid (fun x y h1 h2 => sum_x (x := x) (y := y) (key := key) (text := text) h1 h2 hk hs)
  have HT := Lib.hid hT
  have hE : ∀ y, sumE key.data.toList text.data.toList = y → (y ≠ 0 → putE xs key text = y) ∧ (y = 0 → putE xs key text = if xs.any (Entry.is key text) = true then 4 else if 4096 ≤ xs.length then 8 else 0) := by
    rintro _ rfl
    unfold putE
    exact ⟨fun h => if_pos h, fun h => if_neg (fun h2 => h2 h)⟩
  generalize h1 : sumN key.data.toList text.data.toList = x
  generalize h2 : sumE key.data.toList text.data.toList = y
  have HSum := Lib.hid (HS.out x y h1 h2)
  have HE := Lib.hid (hE y h2)
  clear HS h1 h2 hb0 hT hE
  go_enter Try.func16, Try.ntmps16
  go_wp2_with (fail)
  refine (HSum.out _).mono ?_
  rintro e w2 ⟨rfl, hb2⟩
  simp only [World.size_alloc] at hb2
  obtain ⟨B1, B2, hsz2, hbw2⟩ := two_below hb2
  have c0 := B1.cell 0
  have c1 := B1.cell 1
  have z0 := B2.cell 0
  have z1 := B2.cell 1
  have f0 := B2.frozen 0
  have f1 := B2.frozen 1
  simp at c0 c1 z0 z1
  by_cases hy : y = 0
  · have HE2 := Lib.hid (HE.out.2 hy)
    subst hy
    go_wp2_with (fail)
    have hT2 := HT.out.below hbw2
    have hKn : ∀ b, xs.any (Entry.is key text) = b → Calls Try.prog 18 #[.agg #[.bool i, .slice A xs.length c], .string key, .string text] w2 fun e w' => e = .returned (.bool b) ∧ Below w2.heap.size w2 w' := by
      rintro _ rfl
      exact known_any i xs A c key text w2 hT2 hbig
    have HB2 := Lib.hid hbw2
    clear hb2 hT2 HE HSum hbw2
    cases hany : xs.any (Entry.is key text) with
    | true =>
      have HK := Lib.hid (hKn true hany)
      have HP : Hid (putE xs key text = 4) := Lib.hid (by rw [HE2.out, if_pos hany])
      clear hKn hany
      go_wp2_with (fail)
      refine HK.out.mono ?_
      rintro e w3 ⟨rfl, hb3⟩
      have B13 := B1.below hb3 (by omega)
      have B23 := B2.below hb3 (by omega)
      have c0 := B13.cell 0
      have c1 := B13.cell 1
      have z0 := B23.cell 0
      have z1 := B23.cell 1
      have f0 := B23.frozen 0
      have f1 := B23.frozen 1
      simp at c0 c1 z0 z1
      have HB3 := Lib.hid (HB2.out.trans (hb3.mono HB2.out.size))
      clear hb3
      go_wp2_with (fail)
      obtain ⟨q0, q1, q2⟩ := two_set B23 (.bool false) (.slice none 0 0)
      refine bodyPost_ret (v := .tuple #[.agg #[.bool false, .slice none 0 0], .int .i64 4]) (by simp [results, Try.results16, go_sem, q0, q2]) rfl ?_
      exact put_no HP.out (by decide) (two_set_below HB3.out (by omega) _ _)
    | false =>
      have HK := Lib.hid (hKn false hany)
      have HP : Hid (putE xs key text = if 4096 ≤ xs.length then 8 else 0) := Lib.hid (by rw [HE2.out, if_neg (by rw [hany]; simp)])
      clear hKn hany
      go_wp2_with (fail)
      refine HK.out.mono ?_
      rintro e w3 ⟨rfl, hb3⟩
      have B13 := B1.below hb3 (by omega)
      have B23 := B2.below hb3 (by omega)
      have c0 := B13.cell 0
      have c1 := B13.cell 1
      have z0 := B23.cell 0
      have z1 := B23.cell 1
      have f0 := B23.frozen 0
      have f1 := B23.frozen 1
      simp at c0 c1 z0 z1
      have hs3 := hb3.size
      have hb3' := HB2.out.trans (hb3.mono HB2.out.size)
      have HT3 := Lib.hid (HT.out.below hb3')
      have HB3 := Lib.hid hb3'
      clear hb3 hb3'
      by_cases h4 : 4096 ≤ xs.length
      · have h4i : (4096 : Int) ≤ (xs.length : Int) := by omega
        have HP2 : Hid (putE xs key text = 8) := Lib.hid (by rw [HP.out, if_pos h4])
        clear h4
        go_wp2_with (fail)
        obtain ⟨q0, q1, q2⟩ := two_set B23 (.bool false) (.slice none 0 0)
        refine bodyPost_ret (v := .tuple #[.agg #[.bool false, .slice none 0 0], .int .i64 8]) (by simp [results, Try.results16, go_sem, q0, q2]) rfl ?_
        exact put_no HP2.out (by decide) (two_set_below HB3.out (by omega) _ _)
      · have h4i : ¬ (4096 : Int) ≤ (xs.length : Int) := by omega
        have HP2 : Hid (putE xs key text = 0) := Lib.hid (by rw [HP.out, if_neg h4])
        have hx : xs.length ≤ 4096 := by omega
        clear h4
        go_wp2_with (fail)
        refine (clone_any xs A c _ HT3.out (by omega)).mono ?_
        rintro e w4 ⟨v, rfl, hown, hb4⟩
        have B14 := B13.below hb4 (by omega)
        have B24 := B23.below hb4 (by omega)
        have c0 := B14.cell 0
        have c1 := B14.cell 1
        have z0 := B24.cell 0
        have z1 := B24.cell 1
        have f0 := B24.frozen 0
        have f1 := B24.frozen 1
        simp at c0 c1 z0 z1
        have hs4 := hb4.size
        have HB4 := Lib.hid (HB3.out.trans (hb4.mono HB3.out.size))
        have hT5 : Tab (w4.alloc (.cells #[.string key, .string text, .int .u64 n] 88)) (some ⟨w4.heap.size, 0, none⟩) [⟨key, text, n⟩] := tab_new w4 ⟨key, text, n⟩ ⟨hk, hs, hn.1, hn.2⟩
        have HR := Lib.hid hT5.reads
        have HH := Lib.hid (flat_one [(⟨key, text, n⟩ : Entry)])
        have HO := Lib.hid (hown.alloc (.cells #[.string key, .string text, .int .u64 n] 88))
        have hb5 : Below w.heap.size w (w4.alloc (.cells #[.string key, .string text, .int .u64 n] 88)) := HB4.out.alloc HB4.out.size _
        have HB5 := Lib.hid hb5
        have HG := Lib.hid (own_ge hown)
        have hsz5 : (w4.alloc (.cells #[.string key, .string text, .int .u64 n] 88)).heap.size = w4.heap.size + 1 := World.size_alloc ..
        have HS5 := Lib.hid hsz5
        clear hb4 hT5 hown hb5 hsz5 HT3
        go_wp2_with (at_builtin; refine wpList_append_any _ rfl (.tmp 35) (.tmp 40) _ rfl w3.heap.size 88 i0 _ 3 40 Try.underlying25 hi0 hz0 hz1 hz2 rfl (by omega) v xs.length (flat xs) rfl HO.out _ (some ⟨w4.heap.size, 0, none⟩) 1 1 (flat [⟨key, text, n⟩]) rfl HR.out HH.out (by unfold maxLen; omega) (by omega) (by simp; omega) ?_; intro v1 w5 hown1 hg1 hat1; obtain ⟨g, cap, rfl, hT6, hcap, hgb⟩ := own_put hown1 HT.out.1 ⟨hk, hs, hn.1, hn.2⟩; have B25 := (B24.alloc (.cells #[.string key, .string text, .int .u64 n] 88)).grown hg1 (fun h => by have := HG.out _ h.symm; omega); have HB6 := Lib.hid (HB5.out.grown hg1 HB5.out.size (fun k h => by have := HG.out _ h; omega)); have z0 := B25.cell 0; have z1 := B25.cell 1; have f0 := B25.frozen 0; have f1 := B25.frozen 1; simp at z0 z1; have HT6 := Lib.hid hT6; clear hown1 hg1 hat1 hT6)
        obtain ⟨q0, q1, q2⟩ := two_set B25 (.bool true) (.slice (some ⟨g, 0, none⟩) (xs.length + 1) cap)
        refine bodyPost_ret (v := .tuple #[.agg #[.bool true, .slice (some ⟨g, 0, none⟩) (xs.length + 1) cap], .int .i64 0]) (by simp [results, Try.results16, go_sem, q0, q2]) rfl ?_
        have hb7 := two_set_below (g := w.heap.size + 1) HB6.out (by omega) (.bool true) (.slice (some ⟨g, 0, none⟩) (xs.length + 1) cap)
        exact put_yes HP2.out ((HT6.out.far (p := ⟨w.heap.size + 1, 0, none⟩) (by show w.heap.size + 1 ≠ g; omega) _).far (p := ⟨w.heap.size + 1, 1, none⟩) (by show w.heap.size + 1 ≠ g; omega) _) hcap hb7
  · have hyi : (y != 0) = true := by simpa using hy
    have HP := Lib.hid (HE.out.1 hy)
    have HY := Lib.hid hy
    clear hy
    go_wp2_with (fail)
    obtain ⟨q0, q1, q2⟩ := two_set B2 (.bool false) (.slice none 0 0)
    refine bodyPost_ret (v := .tuple #[.agg #[.bool false, .slice none 0 0], .int .i64 y]) (by simp [results, Try.results16, go_sem, q0, q2]) rfl ?_
    exact put_no HP.out HY.out (two_set_below hbw2 (by omega) _ _)
end Go.Proofs.Ytcphcgkbjlgkiaa

namespace Go.Proofs.Ytcphcgkbjlgkiaa
open Go.RowKit Go.Lib

end Go.Proofs.Ytcphcgkbjlgkiaa
