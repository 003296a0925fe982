/- The walks of edns.typed, and of slices.IndexFunc, ContainsFunc, Clone, DeleteFunc at records. Conditions: none. -/
import Derived.Test.YtgfpnkakglgokaaWith
import Derived.Test.YtgfpnkakglgokaaMsgSame
namespace Go.Proofs.Ytgfpnkakglgokaa
open Go.RowKit Go.Lib

theorem info_rrE : (Try.prog.info? 85).map (fun i => (i.zero, i.size, i.bytes)) = some (some (.agg #[.string ⟨#[]⟩, .int .u16 0, .int .u16 0, .int .u32 0, .string ⟨#[]⟩]), 5, 40) := by kernel_rfl
theorem rr_oneE (xs : List RRec) : ∀ u ∈ flatV RRec.vs xs, u.oneCell' = true := by
  intro u hu
  obtain ⟨e, _, hu⟩ := List.mem_flatMap.1 hu
  simp only [RRec.vs, List.mem_cons, List.not_mem_nil, or_false] at hu
  rcases hu with rfl | rfl | rfl | rfl | rfl <;> rfl
def RRec.is (k : Int) (r : RRec) : Bool := r.t == k
theorem typed1_any (k : Int) (r : RRec) (B : Nat) (W : World) (hB : B < W.heap.size) (hk : W.cell? ⟨B, 0, none⟩ = some (.int .u16 k)) :
    Calls Try.prog 60 #[r.val, .pointer (some ⟨B, 0, none⟩)] W fun e w' => e = .returned (.bool (RRec.is k r)) ∧ Below W.heap.size W w' := by
  have hne : B ≠ W.heap.size := by omega
  dsimp only [RRec.val, RRec.is]
  go_enter Try.func60, Try.ntmps60
  go_wp2
  go_ret
  exact ⟨rfl, (Below.refl _ _).alloc (Nat.le_refl _) _⟩

theorem typed_any (k : Int) (W : World) :
    Calls Try.prog 38 #[.int .u16 k] W fun e w' => e = .returned (.func (.func 60) #[] #[.pointer (some ⟨W.heap.size, 0, none⟩)]) ∧ w' = W.alloc (.cells #[.int .u16 k] 47) := by
  go_enter Try.func38, Try.ntmps38
  go_wp2
  go_ret
  exact ⟨rfl, rfl⟩

set_option maxHeartbeats 1000000 in
set_option maxRecDepth 100000 in
theorem indexR_any (xs : List RRec) (A : Option Addr) (c : Nat) (k : Int) (B : Nat) (w : World)
    (hT : RTab w A xs) (hB : B < w.heap.size) (hk : w.cell? ⟨B, 0, none⟩ = some (.int .u16 k)) (hbig : xs.length ≤ 9223372036854775807) :
    Calls Try.prog 40 #[.slice A xs.length c, .func (.func 60) #[] #[.pointer (some ⟨B, 0, none⟩)]] w fun e w' => e = .returned (.int .i64 (idxP (RRec.is k) xs)) ∧ Below w.heap.size w w' := by
  have HT := Lib.hid hT
  have HK := Lib.hid (And.intro hB hk)
  clear hT hB hk
  go_enter Try.func40, Try.ntmps40
  go_wp2
  go_loopg [5, 8] xs.length (fun gg _ s8 wr => ∃ kk : Nat, kk ≤ xs.length ∧ xs.length - kk ≤ gg ∧ s8 = .int .i64 kk ∧ Aside (Below w.heap.size w wr) ∧ Aside (∀ j f, j < kk → xs[j]? = some f → RRec.is k f = false))
  case atStart => exact ⟨0, Nat.zero_le _, by omega, rfl, Below.refl _ w, fun j _ hj => absurd hj (Nat.not_lt_zero _)⟩
  case round =>
    obtain ⟨kk, hkk, hg, rfl, BW, AA⟩ := hrel
    by_cases hlt : kk < xs.length
    · have hltz : (kk : Int) < (xs.length : Int) := by omega
      have HTr := HT.out.below BW.out
      obtain ⟨e, he⟩ : ∃ e, xs[kk]? = some e := ⟨_, List.getElem?_eq_getElem hlt⟩
      obtain ⟨b, off, rfl, hbs, c0, c1, c2, c3, c4⟩ := HTr.cells he
      have hcall := typed1_any k e B wr (Nat.lt_of_lt_of_le HK.out.1 BW.out.size) ((BW.out.cell (p := ⟨B, 0, none⟩) HK.out.1).trans HK.out.2)
      rw [show e.val = .agg #[.string e.n, .int .u16 e.t, .int .u16 e.c, .int .u32 e.l, .string e.d] from rfl] at hcall
      have HE := Lib.hid he
      have hsize := BW.out.size
      clear HTr he
      cases hq : RRec.is k e with
      | true =>
        have hq2 : RRec.is k e = true := hq
        rw [hq2] at hcall
        have HQ := Lib.hid hq
        clear hq hq2
        go_wp2_with (fail)
        with_reducible refine hcall.mono ?_
        rintro e w' ⟨rfl, hb'⟩
        go_wp2_with (fail)
        go_ret
        refine ⟨?_, BW.out.trans (hb'.mono hsize)⟩
        rw [idxP_hit HE.out HQ.out AA.out]; rfl
      | false =>
        have hq2 : RRec.is k e = false := hq
        rw [hq2] at hcall
        have HQ := Lib.hid hq
        clear hq hq2
        go_wp2_with (fail)
        with_reducible refine hcall.mono ?_
        rintro e w' ⟨rfl, hb'⟩
        go_wp2_with (fail)
        go_roundg (xs.length - (kk + 1))
        case measure => omega
        case rel =>
          refine ⟨kk + 1, by omega, by omega, by go_num, BW.out.trans (hb'.mono hsize), (show Aside _ from fun j f hj hf => ?_)⟩
          by_cases h : j = kk
          · subst h
            rw [HE.out] at hf
            cases hf
            exact HQ.out
          · exact AA.out j f (by omega) hf
    · obtain rfl : kk = xs.length := by omega
      clear hlt
      go_wp2
      go_ret
      refine ⟨?_, BW.out⟩
      rw [idxP_miss AA.out]; rfl


set_option maxRecDepth 100000 in
theorem containsR_any (xs : List RRec) (A : Option Addr) (c : Nat) (k : Int) (B : Nat) (w : World)
    (hT : RTab w A xs) (hB : B < w.heap.size) (hk : w.cell? ⟨B, 0, none⟩ = some (.int .u16 k)) (hbig : xs.length ≤ 1000000) :
    Calls Try.prog 39 #[.slice A xs.length c, .func (.func 60) #[] #[.pointer (some ⟨B, 0, none⟩)]] w fun e w' => e = .returned (.bool (xs.any (RRec.is k))) ∧ Below w.heap.size w w' := by
  have HI := Lib.hid (indexR_any xs A c k B w hT hB hk (by omega))
  obtain ⟨i, hi⟩ : ∃ i, idxP (RRec.is k) xs = i := ⟨_, rfl⟩
  have hany : xs.any (RRec.is k) = decide (0 ≤ i) := by
    rcases idxP_cases (RRec.is k) xs with ⟨h1, h2⟩ | ⟨j, e, h1, h2, h3, h4⟩
    · have : i = -1 := by omega
      subst this
      rw [List.find?_eq_none] at h2
      have : xs.any (RRec.is k) = false := Bool.eq_false_iff.2 (fun h => by obtain ⟨x, hx, hp⟩ := List.any_eq_true.1 h; exact h2 x hx hp)
      rw [this]; rfl
    · have : 0 ≤ i := by omega
      rw [decide_eq_true this]
      exact List.any_eq_true.2 ⟨e, List.mem_of_getElem? h2, h3⟩
  have hib : -1 ≤ i ∧ i ≤ 1000000 := by
    rcases idxP_cases (RRec.is k) xs with ⟨h1, h2⟩ | ⟨j, e, h1, h2, h3, h4⟩
    · omega
    · have := (List.getElem?_eq_some_iff.1 h2).1; omega
  rw [hi] at HI
  rw [hany]
  clear hany hi hT hB hk
  go_enter Try.func39, Try.ntmps39
  go_wp2_with (fail)
  with_reducible refine HI.out.mono ?_
  rintro e w1 ⟨rfl, hb⟩
  go_wp2_with (fail)
  go_ret
  exact ⟨rfl, hb⟩

def ClPostR (L : List RRec) (w : World) (e : Ending) (w' : World) : Prop :=
  ∃ A c, e = .returned (.slice A L.length c) ∧ Sl w' 5 (.slice A L.length c) L.length (flatV RRec.vs L) ∧ (∀ g, (Value.slice A L.length c).ownBlock = some g → w.heap.size ≤ g) ∧ Below w.heap.size w w'

/-- What is left. -/
def leftsR (k : Int) (xs : List RRec) : List RRec := xs.filter fun o => !(RRec.is k o)
theorem leftsR_miss {k : Int} {xs : List RRec} (h : xs.find? (RRec.is k) = none) : leftsR k xs = xs := by
  unfold leftsR
  rw [List.filter_eq_self]
  intro o ho
  have := List.find?_eq_none.1 h o ho
  simpa using this

/-- What DeleteFunc gives back. -/
def DelPostR (k : Int) (xs : List RRec) (v : Value) (w : World) (e : Ending) (w' : World) : Prop :=
  ∃ A c, e = .returned (.slice A (leftsR k xs).length c) ∧ Sl w' 5 (.slice A (leftsR k xs).length c) (leftsR k xs).length (flatV RRec.vs (leftsR k xs)) ∧
    (∀ g, (Value.slice A (leftsR k xs).length c).ownBlock = some g → v.ownBlock = some g) ∧ KeepK (fun i => i < w.heap.size ∧ v.ownBlock ≠ some i) w w'

theorem leftsR_snoc (k : Int) (xs : List RRec) {j : Nat} (hj : j < xs.length) : leftsR k (xs.take (j + 1)) = if RRec.is k xs[j] = true then leftsR k (xs.take j) else leftsR k (xs.take j) ++ [xs[j]] := by
  unfold leftsR
  rw [List.take_succ_eq_append_getElem hj, List.filter_append]
  cases h : RRec.is k xs[j] <;> simp [h]

theorem flatR_set : ∀ (Z : List RRec) (i : Nat) (o : RRec), flatV RRec.vs (Z.set i o) = (((((flatV RRec.vs Z).set (i * 5) (.string o.n)).set (i * 5 + 1) (.int .u16 o.t)).set (i * 5 + 2) (.int .u16 o.c)).set (i * 5 + 3) (.int .u32 o.l)).set (i * 5 + 4) (.string o.d)
  | [], i, o => by simp [flatV]
  | e :: Z, 0, o => by simp [flatV, RRec.vs]
  | e :: Z, i + 1, o => by
    have h1 : flatV RRec.vs (e :: Z) = .string e.n :: .int .u16 e.t :: .int .u16 e.c :: .int .u32 e.l :: .string e.d :: flatV RRec.vs Z := rfl
    have h2 : flatV RRec.vs ((e :: Z).set (i + 1) o) = .string e.n :: .int .u16 e.t :: .int .u16 e.c :: .int .u32 e.l :: .string e.d :: flatV RRec.vs (Z.set i o) := rfl
    rw [h1, h2, flatR_set Z i o, show (i + 1) * 5 = i * 5 + 1 + 1 + 1 + 1 + 1 by omega]
    simp only [List.set_cons_succ]
theorem Sl.setR {w : World} {g n c : Nat} {Z : List RRec} (h : Sl w 5 (.slice (some ⟨g, 0, none⟩) n c) n (flatV RRec.vs Z)) (i : Nat) (hi : i < n) (o : RRec) :
    Sl (((((w.setCell ⟨g, i * 5, none⟩ (.string o.n)).setCell ⟨g, i * 5 + 1, none⟩ (.int .u16 o.t)).setCell ⟨g, i * 5 + 2, none⟩ (.int .u16 o.c)).setCell ⟨g, i * 5 + 3, none⟩ (.int .u32 o.l)).setCell ⟨g, i * 5 + 4, none⟩ (.string o.d)) 5 (.slice (some ⟨g, 0, none⟩) n c) n (flatV RRec.vs (Z.set i o)) := by
  rw [flatR_set]
  exact ((((h.set_ (g := g) rfl (i * 5) _ (by omega)).set_ (g := g) rfl (i * 5 + 1) _ (by omega)).set_ (g := g) rfl (i * 5 + 2) _ (by omega)).set_ (g := g) rfl (i * 5 + 3) _ (by omega)).set_ (g := g) rfl (i * 5 + 4) _ (by omega)
theorem flatR_take (Z : List RRec) (m : Nat) : (flatV RRec.vs Z).take (m * 5) = flatV RRec.vs (Z.take m) := by
  have h := congrArg (flatV RRec.vs) (List.take_append_drop m Z)
  rw [flatV_append] at h
  rcases Nat.lt_or_ge m Z.length with hm | hm
  · rw [← h, List.take_append_of_le_length (by rw [flatV_length RRec.five, List.length_take]; omega), List.take_of_length_le (by rw [flatV_length RRec.five, List.length_take]; omega)]
  · rw [List.take_of_length_le (by rw [flatV_length RRec.five]; omega), List.take_of_length_le hm]

theorem leftsR_before {k : Int} {xs : List RRec} {p : Nat} (h : ∀ j (hj : j < xs.length), j < p → RRec.is k xs[j] = false) : leftsR k (xs.take p) = xs.take p := by
  unfold leftsR
  rw [List.filter_eq_self]
  intro o ho
  obtain ⟨j, hj, rfl⟩ := List.getElem_of_mem ho
  rw [List.length_take] at hj
  rw [List.getElem_take, h j (by omega) (by omega)]
  rfl

end Go.Proofs.Ytgfpnkakglgokaa
