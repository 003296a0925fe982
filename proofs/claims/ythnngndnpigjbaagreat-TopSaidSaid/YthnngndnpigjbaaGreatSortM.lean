/- The walk of slices.Equal at texts. Plain laws of package walk's Sort; rows of places that grow. The walk of package walk's Sort. -/
import Derived.Test.YthnngndnpigjbaaGreatTTab
import Derived.Test.YthnngndnpigjbaaGreatRef01
import Derived.Deep.QuietTactic
import Derived.BigQuiet
import Derived.Deep.LoopGhost
import Derived.Outline
import Derived.Test.YthnngndnpigjbaaGreatStable
namespace Go.Proofs.YthnngndnpigjbaaGreat
open Go.RowKit Go.Lib

theorem eqL_no {xs ys : List Bs} {k : Nat} {x y : Bs} (hx : xs[k]? = some x) (hy : ys[k]? = some y) (h : x ≠ y) : decide (xs = ys) = false := by
  rw [decide_eq_false_iff_not]
  rintro rfl
  rw [hx] at hy
  cases hy
  exact h rfl

set_option maxRecDepth 100000 in
set_option maxHeartbeats 2000000 in
theorem equalL_any (xs ys : List Bs) (A B : Option Addr) (c d : Nat) (w : World) (hA : TTab w A (strs xs)) (hB : TTab w B (strs ys)) (hx : xs.length ≤ 1000000) (hy : ys.length ≤ 1000000) :
    Calls Tryz.prog 74 #[.slice A xs.length c, .slice B ys.length d] w fun e w' => e = .returned (.bool (decide (xs = ys))) ∧ ∃ m, w' = w.drewN m := by
  obtain ⟨z, hz⟩ : ∃ z, decide (xs = ys) = z := ⟨_, rfl⟩
  rw [hz]
  have hxI : (xs.length : Int) ≤ 1000000 := by omega
  have hyI : (ys.length : Int) ≤ 1000000 := by omega
  by_cases hne : xs.length = ys.length
  · have HA := Lib.hid (And.intro hA (And.intro hB (And.intro hz hne)))
    have hnn : ((xs.length : Int) != (ys.length : Int)) = false := by rw [hne]; simp
    have hnn2 : (xs.length != ys.length) = false := by rw [hne]; simp
    clear hA hB hz hne
    go_enter Tryz.func74, Tryz.ntmps74
    go_wp2_with (fail)
    go_loopg [5, 13] xs.length (fun g _ v wr => ∃ k : Nat, v = .int .i64 (k : Int) ∧ Aside (g + k = xs.length) ∧ Aside (xs.take k = ys.take k) ∧ ∃ m, wr = w.drewN m)
    case atStart => exact ⟨0, rfl, (by show _ + 0 = _; rfl), rfl, 0, rfl⟩
    case round =>
      obtain ⟨k, rfl, hg, hpre, m, rfl⟩ := hrel
      by_cases hlt : k < xs.length
      · obtain ⟨hA, hB, hz, hne⟩ := HA.out
        obtain ⟨a, o, rfl, hal, hac⟩ := hA (by simpa [strs] using (by omega : 0 < xs.length))
        obtain ⟨b, p, rfl, hbl, hbc⟩ := hB (by simpa [strs] using (by omega : 0 < ys.length))
        obtain ⟨x, hx0⟩ : ∃ x, xs[k]? = some x := ⟨_, List.getElem?_eq_getElem hlt⟩
        obtain ⟨y, hy0⟩ : ∃ y, ys[k]? = some y := ⟨_, List.getElem?_eq_getElem (by omega)⟩
        obtain ⟨V, hV⟩ : ∃ V, w.drewN m = V := ⟨_, rfl⟩
        have a0 : V.cell? ⟨a, o + k, none⟩ = some (.string ⟨x.toArray⟩) := by rw [← hV]; exact hac k _ (by simp [strs, hx0])
        have b0 : V.cell? ⟨b, p + k, none⟩ = some (.string ⟨y.toArray⟩) := by rw [← hV]; exact hbc k _ (by simp [strs, hy0])
        have hltI : (k : Int) < (xs.length : Int) := by omega
        have hltJ : (k : Int) < (ys.length : Int) := by omega
        have hkI : (k : Int) ≤ 1000000 := by omega
        rw [hV]
        have HV := Lib.hid hV
        by_cases hxy : x = y
        · subst hxy
          have hts : xs.take (k + 1) = ys.take (k + 1) := by
            obtain ⟨h1, h2⟩ := List.getElem?_eq_some_iff.1 hx0
            obtain ⟨h3, h4⟩ := List.getElem?_eq_some_iff.1 hy0
            rw [List.take_succ_eq_append_getElem h1, List.take_succ_eq_append_getElem h3, h2, h4, hpre.out]
          have HT := Lib.hid hts
          clear hac hbc hV hx0 hy0 hts hne hA hB hz hpre
          go_wp2_with (fail)
          go_quiet (fail)
          go_wp2_with (fail)
          go_roundg (xs.length - (k + 1))
          case measure => have := hg.out; omega
          case rel => exact ⟨k + 1, by go_num, (by show _ = _; omega), HT.out, m + nq, by rw [← HV.out, World.drewN_drewN]⟩
        · obtain ⟨x', hx'⟩ : ∃ x' : ByteArray, (⟨x.toArray⟩ : ByteArray) = x' := ⟨_, rfl⟩
          obtain ⟨y', hy'⟩ : ∃ y' : ByteArray, (⟨y.toArray⟩ : ByteArray) = y' := ⟨_, rfl⟩
          rw [hx'] at a0
          rw [hy'] at b0
          have hq1 : ¬ x'.toList = y'.toList := by
            rw [← hx', ← hy', ByteArray.toList_eq, ByteArray.toList_eq]
            exact hxy
          have hq : (x'.toList != y'.toList) = true := by rw [bne_iff_ne]; exact hq1
          have hq2 : (x'.toList == y'.toList) = false := by rw [beq_eq_false_iff_ne]; exact hq1
          have hzf := eqL_no hx0 hy0 hxy
          rw [hz] at hzf
          have HZ := Lib.hid hzf
          clear hac hbc hV hx0 hy0 hxy hx' hy' hq1 hne hA hB hz hpre hzf
          go_wp2_with (fail)
          go_quiet (fail)
          go_wp2_with (fail)
          go_ret
          rw [HZ.out]
          exact ⟨rfl, m + nq, by rw [← HV.out, World.drewN_drewN]⟩
      · obtain rfl : k = xs.length := by have := hg.out; omega
        obtain ⟨hA, hB, hz, hne⟩ := HA.out
        have hzt : z = true := by
          rw [← hz, decide_eq_true_iff]
          have h := hpre.out
          rw [List.take_length, hne, List.take_length] at h
          exact h
        have HZ := Lib.hid hzt
        clear hA hB hz hne hzt hpre
        go_wp2_with (fail)
        go_ret
        rw [HZ.out]
        exact ⟨rfl, m, rfl⟩
  · have hzf : z = false := by
      rw [← hz, decide_eq_false_iff_not]
      rintro rfl
      exact hne rfl
    subst hzf
    have hnn : ((xs.length : Int) != (ys.length : Int)) = true := by rw [bne_iff_ne]; omega
    have hnn2 : (xs.length != ys.length) = true := by rw [bne_iff_ne]; exact hne
    clear hA hB hz hne
    go_enter Tryz.func74, Tryz.ntmps74
    go_wp2_with (fail)
    go_ret
    exact ⟨rfl, 0, rfl⟩
end Go.Proofs.YthnngndnpigjbaaGreat

namespace Go.Proofs.YthnngndnpigjbaaGreat
open Go.RowKit Go.Lib

section
variable {α κ : Type} [DecidableEq κ] (key : α → κ)
/-- The first of each run of one key. -/
def ddF : Option κ → List α → List α
  | _, [] => []
  | pv, x :: l => if pv = some (key x) then ddF (some (key x)) l else x :: ddF (some (key x)) l
theorem ddF_snoc (x : α) : ∀ (l : List α) (pv : Option κ), ddF key pv (l ++ [x]) = ddF key pv l ++ (if (match l.getLast? with | some y => some (key y) | none => pv) = some (key x) then [] else [x])
  | [], pv => by
    show ddF key pv [x] = _
    unfold ddF
    split <;> simp [ddF, *]
  | y :: l, pv => by
    have ih := ddF_snoc x l (some (key y))
    have e : (match (y :: l).getLast? with | some z => some (key z) | none => pv) = (match l.getLast? with | some z => some (key z) | none => some (key y)) := by
      cases l with
      | nil => rfl
      | cons z l => rw [List.getLast?_cons_cons]; cases h : (z :: l).getLast? <;> simp_all
    show ddF key pv (y :: (l ++ [x])) = _
    rw [e]
    unfold ddF
    split
    · exact ih
    · rw [ih]; rfl
theorem ddF_length (key : α → κ) : ∀ (l : List α) (pv : Option κ), (ddF key pv l).length ≤ l.length
  | [], _ => Nat.le_refl _
  | x :: l, pv => by
    unfold ddF
    have := ddF_length key l (some (key x))
    split
    · simp; omega
    · simp; omega
theorem ddF_map {β : Type} (f : β → α) (key' : β → κ) : ∀ (l : List β) (pv : Option κ), (∀ x ∈ l, key' x = key (f x)) → (ddF key' pv l).map f = ddF key pv (l.map f)
  | [], _, _ => rfl
  | x :: l, pv, h => by
    have ih := ddF_map f key' l (some (key' x)) fun y hy => h y (List.mem_cons_of_mem _ hy)
    have hx := h x (by simp)
    show (ddF key' pv (x :: l)).map f = ddF key pv (f x :: l.map f)
    unfold ddF
    rw [← hx]
    split
    · exact ih
    · rw [List.map_cons, ih]
end
/-- The names of a list, in order, each once. -/
def sortN (l : List Bs) : List Bs := ddF ris none (sortK ris cmpL (l.filter isName))
def Pl.n (p : Pl) : Bs := p.nm.data.toList
theorem sortN_of {P' P : List Pl} {l : List Bs} (hP : P.map Pl.n = l.filter isName) (hk : ∀ p ∈ P, p.L = ris p.n) (h1 : SrtK Pl.L cmpL P') (h2 : StS Pl.L P' P) :
    (ddF Pl.L none P').map Pl.n = sortN l := by
  have hk' : ∀ p ∈ P', p.L = ris p.n := fun p hp => hk p (h2.mem hp)
  rw [ddF_map ris Pl.n Pl.L P' none hk']
  unfold sortN
  congr 1
  refine sortK_of cmpL_tot ?_ ?_
  · unfold SrtK at h1 ⊢
    rw [List.pairwise_map]
    refine h1.imp_of_mem ?_
    intro x y hx hy h
    rw [← hk' x hx, ← hk' y hy]
    exact h
  · intro k
    rw [← hP]
    have e : ∀ Q : List Pl, (∀ p ∈ Q, p.L = ris p.n) → (Q.map Pl.n).filter (fun y => decide (ris y = k)) = (Q.filter (fun y => decide (y.L = k))).map Pl.n := fun Q hQ => by
      rw [List.filter_map]
      congr 1
      apply List.filter_congr
      intro p hp
      show decide (ris p.n = k) = _
      rw [hQ p hp]
    rw [e P' hk', e P hk, h2 k]

theorem src_pl {P : Program} {tx e' : TypeId} (hk : P.underlying tx = some (.slice e')) (w : World) (t : TypeId) (u v : Value) (h1 : u.oneCell' = true) (h2 : v.oneCell' = true) : Src P 2 tx (.slice (some ⟨w.heap.size, 0, none⟩) 1 1) 1 [u, v] (w.alloc (.cells #[u, v] t)) :=
  Src.ofSlice _ hk ⟨w.heap.size, 0, none⟩ 1 1 [u, v] rfl (fun j x hx => by
    match j, hx with
    | 0, hx =>
      have : u = x := by simpa using hx
      subst this
      simp [Addr.add]
    | 1, hx =>
      have : v = x := by simpa using hx
      subst this
      simp [Addr.add]
    | j + 2, hx => simp at hx) (fun x hx => by
      rcases List.mem_cons.1 hx with rfl | hx
      · exact h1
      · rw [List.mem_singleton.1 hx]; exact h2)
theorem info_pl : (Tryz.prog.info? 139).map (fun i => (i.zero, i.size, i.bytes)) = some (some (.agg #[.string ⟨#[]⟩, .slice none 0 0]), 2, 40) := by kernel_rfl
/-- The labels of places lie beside the row v that is the call's own. -/
def PlV (w : World) (v : Value) (B : Nat) (ps : List Pl) : Prop :=
  (∀ g, v.ownBlock = some g → B ≤ g) ∧ ∀ p ∈ ps, TTab w p.A (strs p.L) ∧ (∀ a, p.A = some a → 0 < p.L.length → v.ownBlock ≠ some a.block) ∧ p.L.length ≤ 1000000
theorem plv_add {w w2 w' : World} {v v' : Value} {B n : Nat} {ps : List Pl} {xs : List Value} {p : Pl} {o : Obj} (h : PlV w v B ps) (hS : Sl w 2 v n xs) (hb : Below w.heap.size w w2) (hB : B ≤ w.heap.size)
    (hs : Sl w2 1 (.slice p.A p.L.length p.c) p.L.length (strs p.L)) (ho : ∀ g, (Value.slice p.A p.L.length p.c).ownBlock = some g → w.heap.size ≤ g) (hl : p.L.length ≤ 1000000)
    (hg : (w2.alloc o).grownBy w' v.ownBlock) (hv : v'.ownBlock = v.ownBlock ∨ v'.ownBlock = some (w2.alloc o).heap.size) : PlV w' v' B (ps ++ [p]) := by
  have hz := hb.size
  have key : ∀ (A : Option Addr) (L : List Bs), TTab w2 A (strs L) → (∀ a, A = some a → 0 < L.length → v.ownBlock ≠ some a.block) → TTab w' A (strs L) ∧ (∀ a, A = some a → 0 < L.length → v'.ownBlock ≠ some a.block) := by
    intro A L hT hne
    have hlt : ∀ a, A = some a → 0 < L.length → a.block < w2.heap.size := fun a ha hL => by
      obtain ⟨b, o', hA, hlt, _⟩ := hT (by rw [strs_len]; exact hL)
      rw [hA] at ha; cases ha
      exact hlt
    refine ⟨fun hn => ?_, fun a ha hL => ?_⟩
    · obtain ⟨b, o', hA, hlt', hc⟩ := hT hn
      rw [strs_len] at hn
      have hb' : v.ownBlock ≠ some b := hne _ hA hn
      refine ⟨b, o', hA, Nat.lt_of_lt_of_le hlt' (Nat.le_trans (by simp) hg.size), fun j u hu => ?_⟩
      rw [World.cell?_of_block (a := ⟨b, o' + j, none⟩) (hg.block b (by simp; omega) (fun e => hb' e.symm)), World.cell?_alloc_lt _ _ _ hlt']
      exact hc j u hu
    · rcases hv with e | e
      · rw [e]; exact hne a ha hL
      · rw [e]
        have := hlt a ha hL
        intro h
        injection h with h
        simp at h
        omega
  refine ⟨own_from h.1 (by simp; omega) hv, fun q hq => ?_⟩
  rcases List.mem_append.1 hq with hq | hq
  · obtain ⟨h1, h2, h3⟩ := h.2 q hq
    obtain ⟨k1, k2⟩ := key q.A q.L (h1.below hb) h2
    exact ⟨k1, k2, h3⟩
  · rw [List.mem_singleton.1 hq]
    have hTT := sl_tt hs
    obtain ⟨k1, k2⟩ := key p.A p.L hTT (fun a ha hL => by
      obtain ⟨g, cap, hvv, hgl, _⟩ := hs.form hL
      injection hvv with hA _ _
      rw [hA] at ha
      cases ha
      intro e
      have h1 := hS.lt g e
      have h2 := ho g (by rw [hA]; rfl)
      omega)
    exact ⟨k1, k2, hl⟩

set_option maxRecDepth 100000 in
theorem insSort_none (A : Option Addr) (c : Nat) (w : World) :
    Calls Tryz.prog 100 #[.slice A 0 c, .int .i64 0, .int .i64 0, .func (.func 72) #[] #[]] w fun e w' => e = .returned (.tuple #[]) ∧ w = w' := by
  go_enter Tryz.func100, Tryz.ntmps100
  go_wp2_with (fail)
  go_loopg [8] 0 (fun _ v8 wr => v8 = .int .i64 1 ∧ wr = w)
  case atStart => exact ⟨rfl, rfl⟩
  case round =>
    obtain ⟨rfl, rfl⟩ := hrel
    go_wp2_with (fail)
    refine bodyPost_end (results_none rfl _ _ _) rfl ?_
    exact ⟨rfl, rfl⟩
set_option maxRecDepth 100000 in
theorem stable_none (A : Option Addr) (c : Nat) (w : World) :
    Calls Tryz.prog 86 #[.slice A 0 c, .int .i64 0, .func (.func 72) #[] #[]] w fun e w' => e = .returned (.tuple #[]) ∧ w = w' := by
  have H1 := Lib.hid (fun W => insSort_none A c W)
  go_enter Tryz.func86, Tryz.ntmps86
  go_wp2_with (fail)
  go_loopg [7, 8] 0 (fun _ v7 v8 wr => v7 = .int .i64 0 ∧ v8 = .int .i64 20 ∧ wr = w)
  case atStart => exact ⟨rfl, rfl, rfl⟩
  case round =>
    obtain ⟨rfl, rfl, rfl⟩ := hrel
    go_wp2_with (fail)
    refine (H1.out _).mono ?_
    rintro e w1 ⟨rfl, rfl⟩
    go_wp2_with (fail)
    go_loopg [6, 7, 8, 9] 0 (fun _ v6 _ _ _ W => v6 = .int .i64 20 ∧ W = wr)
    case atStart => exact ⟨rfl, rfl⟩
    case round =>
      obtain ⟨rfl, rfl⟩ := hrel
      go_wp2_with (fail)
      refine bodyPost_end (results_none rfl _ _ _) rfl ?_
      exact ⟨rfl, rfl⟩
set_option maxRecDepth 100000 in
theorem sortStable_none (A : Option Addr) (c : Nat) (w : World) :
    Calls Tryz.prog 71 #[.slice A 0 c, .func (.func 72) #[] #[]] w fun e w' => e = .returned (.tuple #[]) ∧ w = w' := by
  have H := Lib.hid (stable_none A c w)
  go_enter Tryz.func71, Tryz.ntmps71
  go_wp2_with (fail)
  refine H.out.mono ?_
  rintro e w1 ⟨rfl, rfl⟩
  go_wp2_with (fail)
  refine bodyPost_end (results_none rfl _ _ _) rfl ?_
  exact ⟨rfl, rfl⟩

/-- The sort, whatever the row. -/
def SortedPost (v : Value) (P : List Pl) (w : World) (e : Ending) (w' : World) : Prop :=
  e = .returned (.tuple #[]) ∧ ∃ P', SrtK Pl.L cmpL P' ∧ StS Pl.L P' P ∧ Sl w' 2 v P.length (plC P') ∧ KeepK (fun i => i < w.heap.size ∧ v.ownBlock ≠ some i) w w'
theorem sorted_any {m : Nat} (hm : StableOk m) (A : Option Addr) (c B : Nat) (P : List Pl) (w : World) (hS : Sl w 2 (.slice A P.length c) P.length (plC P)) (hP : PlV w (.slice A P.length c) B P) (hn : P.length ≤ m) (hb : P.length ≤ 1000000) :
    Calls Tryz.prog 71 #[.slice A P.length c, .func (.func 72) #[] #[]] w (SortedPost (.slice A P.length c) P w) := by
  rcases Nat.eq_zero_or_pos P.length with h0 | h0
  · have hP0 : P = [] := List.eq_nil_of_length_eq_zero h0
    subst hP0
    refine (sortStable_none A c w).mono ?_
    rintro e w' ⟨rfl, rfl⟩
    exact ⟨rfl, [], List.Pairwise.nil, StS.refl _, hS, KeepK.refl _ _⟩
  · obtain ⟨g, cap, hv, hg, _⟩ := hS.form h0
    injection hv with hA _ _
    subst hA
    refine (sortStable_any hm g c P w hS (fun p hp => ?_) hn hb).mono ?_
    · obtain ⟨h1, h2, h3⟩ := hP.2 p hp
      exact ⟨h1, fun a ha hL e => h2 a ha hL (by rw [e]; rfl), h3⟩
    · rintro e w' ⟨rfl, P', h1, h2, h3, h4⟩
      refine ⟨rfl, P', h1, h2, h3, h4.mono fun i hi => ⟨hi.1, fun e => hi.2 (by rw [e]; rfl)⟩⟩
end Go.Proofs.YthnngndnpigjbaaGreat

namespace Go.Proofs.YthnngndnpigjbaaGreat
open Go.RowKit Go.Lib

set_option maxRecDepth 100000 in
set_option maxHeartbeats 4000000 in
theorem Sort_any {m : Nat} (hm : StableOk m) (xs : List ByteArray) (A : Option Addr) (c : Nat) (w : World) (hA : TTab w A (xs.map Value.string)) (hx : ∀ x ∈ xs, x.size ≤ 1000000) (hl : xs.length ≤ m) (hl2 : xs.length ≤ 1000) :
    Calls Tryz.prog 50 #[.slice A xs.length c] w (CollPost (sortN (xs.map fun x => x.data.toList)) w) := by
  obtain ⟨i0, hi0, hz0, hz1, hz2⟩ := info_parts info_pl
  obtain ⟨j0, hj0, hy0, hy1, hy2⟩ := info_parts info_str
  have hlI : (xs.length : Int) ≤ 1000 := by omega
  have HX := Lib.hid (And.intro hx (And.intro hl hl2))
  have HA := Lib.hid hA
  have HM := Lib.hid hm
  clear hx hA hm hl hl2
  go_enter Tryz.func50, Tryz.ntmps50
  go_wp2_with (fail)
  go_loopg [3, 5, 11] xs.length (fun gg v3 _ v11 wr => ∃ (k : Nat) (ps : List Pl), v11 = .int .i64 (k : Int) ∧ Aside (gg + k = xs.length) ∧ Aside (Sl wr 2 v3 ps.length (plC ps)) ∧ Aside (PlV wr v3 w.heap.size ps) ∧ Aside (ps.map Pl.n = ((xs.take k).map fun x => x.data.toList).filter isName ∧ ∀ p ∈ ps, p.L = ris p.n) ∧ Aside (Below w.heap.size w wr))
  case atStart =>
    exact ⟨0, [], rfl, (by show _ + 0 = _; rfl), Sl.nil _ _, ⟨fun g hg => by simp [Value.ownBlock] at hg, fun p hp => absurd hp List.not_mem_nil⟩, ⟨rfl, fun p hp => absurd hp List.not_mem_nil⟩, Below.refl _ _⟩
  case round =>
    obtain ⟨k, ps, rfl, hg, hS, hP, hN, hB⟩ := hrel
    obtain ⟨A3, c3, rfl, hc1, hc2⟩ := hS.out.shape
    have hpl : ps.length ≤ k := by
      have h1 := congrArg List.length hN.out.1
      rw [List.length_map] at h1
      have h2 := List.length_filter_le isName ((xs.take k).map fun x => x.data.toList)
      rw [List.length_map, List.length_take] at h2
      omega
    by_cases hlt : k < xs.length
    · obtain ⟨b0, o, rfl, hal, hac⟩ := HA.out (by rw [List.length_map]; omega)
      obtain ⟨x, hxk⟩ : ∃ x, xs[k]? = some x := ⟨_, List.getElem?_eq_getElem hlt⟩
      have a0 : wr.cell? ⟨b0, o + k, none⟩ = some (.string x) := (hB.out.cell (p := ⟨b0, o + k, none⟩) hal).trans (hac k _ (by rw [List.getElem?_map, hxk]; rfl))
      have hltI : (k : Int) < (xs.length : Int) := by omega
      have hxm : x ∈ xs := List.mem_of_getElem? hxk
      have hxs := HX.out.1 x hxm
      have hk1000 := HX.out.2.2
      have HC := Lib.hid (fun W => Check_any x (by unfold maxLen; omega) W)
      have HR := Lib.hid (fun W => rising_any x hxs W)
      have htk : (xs.take (k + 1)).map (fun x => x.data.toList) = ((xs.take k).map fun x => x.data.toList) ++ [x.data.toList] := by
        obtain ⟨q1, q2⟩ := List.getElem?_eq_some_iff.1 hxk
        rw [List.take_succ_eq_append_getElem q1, q2, List.map_append]; rfl
      have hrl : (ris x.data.toList).length ≤ 1000000 := by
        have h1 := ris_len x.data.toList
        simp at h1
        omega
      rcases chk_cases x.data.toList with ⟨hn1, hn2⟩ | ⟨hn1, hn2⟩
      · rw [hn2] at HC
        have HT := Lib.hid (And.intro htk (And.intro hn1 hrl))
        have hpl2 : ps.length ≤ 1000 := by omega
        clear hac hxk hxm hn2 htk hn1 hrl hxs
        go_wp2_with (fail)
        refine (HC.out _).mono ?_
        rintro e w1 ⟨rfl, hb⟩
        have B1 := Lib.hid hb
        clear hb
        go_wp2_with (fail)
        refine (HR.out _).mono ?_
        rintro e w2 ⟨A2, c2, rfl, h1, h2, h3⟩
        have B2 := Lib.hid (B1.out.trans (h3.mono B1.out.size))
        have hbz := B1.out.size
        have hS2 := hS.out.below B2.out hS.out.lt
        have HP := Lib.hid (And.intro hP.out (And.intro h1 (And.intro (fun g hg => Nat.le_trans hbz (h2 g hg)) hS.out)))
        have HSL := Lib.hid (hS2.alloc (.cells #[.string x, .slice A2 (ris x.data.toList).length c2] 139))
        have HSR := Lib.hid (src_pl (P := Tryz.prog) Tryz.underlying136 w2 139 (.string x) (.slice A2 (ris x.data.toList).length c2) rfl rfl)
        clear h1 h2 h3 hbz hS2
        go_wp2_with (at_builtin; go_must (refine wpList_append_sl _ rfl (.tmp 18) (.tmp 23) 136 136 rfl 139 i0 (.agg #[.string ⟨#[]⟩, .slice none 0 0]) 2 40 Tryz.underlying136 hi0 hz0 hz1 hz2 rfl (.slice A3 ps.length c3) ps.length (plC ps) rfl HSL.out _ rfl 1 [.string x, .slice A2 (ris x.data.toList).length c2] HSR.out (by unfold maxLen; omega) (by omega) ?_); intro v4 w4 hs4 hg4 hv4; obtain ⟨A4, c4, rfl, hc4, hm4⟩ := hs4.shape; have H4 := Lib.hid (And.intro hs4 (And.intro hg4 hv4)); clear hs4 hg4 hv4 hc4 hm4)
        obtain ⟨hs4, hg4, hv4⟩ := H4.out
        go_roundg (xs.length - (k + 1))
        case measure => have := hg.out; omega
        case rel =>
          obtain ⟨hP1, h1, h2, hS0⟩ := HP.out
          obtain ⟨htk, hn1, hrl⟩ := HT.out
          have hadd := plv_add (p := ⟨x, A2, c2, ris x.data.toList⟩) (B := w.heap.size) hP1 hS0 B2.out hB.out.size h1 h2 hrl hg4 hv4
          have hbz := hB.out.size
          have hb2z := B2.out.size
          refine ⟨k + 1, ps ++ [⟨x, A2, c2, ris x.data.toList⟩], by go_num, (by show _ = _; omega), ?_, ?_, ⟨?_, ?_⟩, ?_⟩
          · show Sl _ _ _ _ _
            rw [plC_append, List.length_append]
            exact hs4
          · exact hadd
          · rw [List.map_append, hN.out.1, htk, List.filter_append]
            congr 1
            show [x.data.toList] = _
            simp [hn1]
          · intro p hp
            rcases List.mem_append.1 hp with hp | hp
            · exact hN.out.2 p hp
            · rw [List.mem_singleton.1 hp]; rfl
          · exact ((hB.out.trans (B2.out.mono hbz)).alloc (by omega) _).grown hg4 (by simp; omega) (fun g hg => hP1.1 g hg)
      · rw [hn2] at HC
        have HT := Lib.hid (And.intro htk hn1)
        clear hac hxk hxm hn2 htk hn1 hrl hxs
        go_wp2_with (fail)
        refine (HC.out _).mono ?_
        rintro e w1 ⟨rfl, hb⟩
        have B1 := Lib.hid hb
        clear hb
        go_wp2_with (fail)
        go_roundg (xs.length - (k + 1))
        case measure => have := hg.out; omega
        case rel =>
          obtain ⟨htk, hn1⟩ := HT.out
          refine ⟨k + 1, ps, by go_num, (by show _ = _; omega), hS.out.below B1.out hS.out.lt, ⟨hP.out.1, fun p hp => ⟨(hP.out.2 p hp).1.below B1.out, (hP.out.2 p hp).2⟩⟩, ⟨?_, hN.out.2⟩, hB.out.trans (B1.out.mono hB.out.size)⟩
          rw [hN.out.1, htk, List.filter_append]
          simp [hn1]
    · obtain rfl : k = xs.length := by have := hg.out; omega
      have hsort := sorted_any HM.out A3 c3 w.heap.size ps wr hS.out hP.out (Nat.le_trans hpl HX.out.2.1) (by have := HX.out.2.2; omega)
      have HSO := Lib.hid hsort
      have hN0 := hN.out
      rw [List.take_length] at hN0
      have HN := Lib.hid hN0
      clear hsort hlt hN0
      go_wp2_with (fail)
      refine HSO.out.mono ?_
      rintro e w2 ⟨rfl, P', hp1, hp2, hp3, hp4⟩
      have hfin := sortN_of HN.out.1 HN.out.2 hp1 hp2
      have hPlen := hp2.len
      have HF := Lib.hid (And.intro hfin hPlen)
      have hown := hP.out.1
      have hbw2 : Below w.heap.size w w2 := hB.out.trans (hp4.below fun i hi => ⟨Nat.lt_of_lt_of_le hi hB.out.size, fun e => by have := hown i e; omega⟩)
      have hP2 : ∀ p ∈ P', TTab w2 p.A (strs p.L) ∧ p.L.length ≤ 1000000 := fun p hp => by
        obtain ⟨h1, h2, h3⟩ := hP.out.2 p (hp2.mem hp)
        refine ⟨fun hn => ?_, h3⟩
        obtain ⟨b, o', hA', hlt, hc⟩ := h1 hn
        rw [strs_len] at hn
        refine ⟨b, o', hA', Nat.lt_of_lt_of_le hlt hp4.size, fun j u hu => ?_⟩
        rw [World.cell?_of_block (a := ⟨b, o' + j, none⟩) (hp4.block b ⟨hlt, h2 _ hA' hn⟩)]
        exact hc j u hu
      have HP2 := Lib.hid (And.intro hP2 (And.intro hp3 (And.intro hbw2 hown)))
      have hnI : (ps.length : Int) ≤ 1000 := by omega
      clear hp1 hp2 hp3 hp4 hfin hPlen hbw2 hP2 hown HSO hS hP hB hN
      go_wp2_with (fail)
      go_loopg [6, 7, 8, 30] ps.length (fun gg v6 _ _ v30 wq => ∃ (i : Nat), v30 = .int .i64 (i : Int) ∧ Aside (gg + i = ps.length) ∧ Aside (Sl wq 1 v6 ((ddF Pl.L none (P'.take i)).map Pl.n).length (strs ((ddF Pl.L none (P'.take i)).map Pl.n))) ∧ Aside (∀ g, v6.ownBlock = some g → w2.heap.size ≤ g) ∧ Aside (Below w2.heap.size w2 wq))
      case atStart =>
        exact ⟨0, rfl, (by show _ + 0 = _; rfl), Sl.nil _ _, (show Aside _ from fun g hg => by simp [Value.ownBlock] at hg), Below.refl _ _⟩
      case round =>
        obtain ⟨i, rfl, hg, hS6, ho6, hB6⟩ := hrel
        obtain ⟨D, hD⟩ : ∃ D, (ddF Pl.L none (P'.take i)).map Pl.n = D := ⟨_, rfl⟩
        have hS6' := hS6.out
        rw [hD] at hS6'
        obtain ⟨A6, c6, rfl, hc61, hc62⟩ := hS6'.shape
        have hS7 := Lib.hid hS6'
        have HD := Lib.hid hD
        have hDl : D.length ≤ 1000 := by
          have h1 := ddF_length Pl.L (P'.take i) none
          rw [← hD, List.length_map]
          rw [List.length_take] at h1
          have h2 := hg.out
          omega
        clear hD hS6' hS6
        by_cases hlt : i < ps.length
        · obtain ⟨p, hpi⟩ : ∃ p, P'[i]? = some p := ⟨_, List.getElem?_eq_getElem (by rw [HF.out.2]; exact hlt)⟩
          have hSw := HP2.out.2.1.below hB6.out HP2.out.2.1.lt
          obtain ⟨g, cap, hv, hgl, hgc, hgm, hcell⟩ := hSw.form (by omega)
          injection hv with hA3 _ hc3
          subst hA3 hc3
          have c0 : wr.cell? ⟨g, i * 2, none⟩ = some (.string p.nm) := hcell _ _ (plC_0 hpi)
          have c1 : wr.cell? ⟨g, i * 2 + 1, none⟩ = some (.slice p.A p.L.length p.c) := hcell _ _ (plC_1 hpi)
          have hltI : (i : Int) < (ps.length : Int) := by omega
          have hsn := ddF_snoc Pl.L p (P'.take i) none
          have htk : P'.take (i + 1) = P'.take i ++ [p] := by
            obtain ⟨q1, q2⟩ := List.getElem?_eq_some_iff.1 hpi
            rw [List.take_succ_eq_append_getElem q1, q2]
          rw [← htk] at hsn
          have HPI := Lib.hid (And.intro hpi htk)
          rcases Nat.eq_zero_or_pos i with hi0 | hi0
          · have hsn0 : ddF Pl.L none (P'.take (i + 1)) = ddF Pl.L none (P'.take i) ++ [p] := by rw [hsn, hi0]; rfl
            have hi1 : ((i : Int) == 0) = true := by rw [beq_iff_eq]; omega
            have hi2 : (i == 0) = true := by rw [beq_iff_eq]; omega
            have HSN := Lib.hid hsn0
            clear hcell hSw hgc hgm hsn htk hpi hsn0 hc61 hi0
            go_wp2_with (fail)
            go_quiet (fail)
            have hsn := HSN.out
            obtain ⟨V, hV⟩ : ∃ V, (wr.alloc (.cells #[.string p.nm, .slice p.A p.L.length p.c] 139)).drewN nq = V := ⟨_, rfl⟩
            have hbV : Below wr.heap.size wr V := by rw [← hV]; exact below_drewN ((Below.refl _ _).alloc (Nat.le_refl _) _) nq
            have hbox : Blk V wr.heap.size 139 #[.string p.nm, .slice p.A p.L.length p.c] := by rw [← hV]; exact Blk.new wr _ _
            have d0 := hbox.cell 0
            have hS6V := hS7.out.below hbV hS7.out.lt
            have HSL := Lib.hid (hS6V.alloc (.cells #[.string p.nm] 9))
            have HSR := Lib.hid (src_new (P := Tryz.prog) Tryz.underlying34 V 9 (.string p.nm) rfl)
            have HV := Lib.hid (And.intro hbV (And.intro hlt hsn))
            rw [hV]
            clear hV hbV hbox hS6V hsn c0 c1
            go_wp2_with (at_builtin; go_must (refine wpList_append_sl _ rfl (.tmp 49) (.tmp 52) 34 34 rfl 9 j0 (.string ⟨#[]⟩) 1 16 Tryz.underlying34 hj0 hy0 hy1 hy2 rfl (.slice A6 D.length c6) D.length (strs D) rfl HSL.out _ rfl 1 [.string p.nm] HSR.out (by unfold maxLen; omega) (by omega) ?_); intro v4 w4 hs4 hg4 hv4; obtain ⟨A4, c4, rfl, hc4, hm4⟩ := hs4.shape; have H4 := Lib.hid (And.intro hs4 (And.intro hg4 hv4)); clear hs4 hg4 hv4 hc4 hm4)
            obtain ⟨hs4, hg4, hv4⟩ := H4.out
            obtain ⟨hbV, hlt, hsn⟩ := HV.out
            go_roundg (ps.length - (i + 1))
            case measure => have := hg.out; omega
            case rel =>
              have hz6 := hB6.out.size
              have hzV := hbV.size
              have hDn : (ddF Pl.L none (P'.take (i + 1))).map Pl.n = D ++ [p.n] := by rw [hsn, List.map_append, HD.out]; rfl
              refine ⟨i + 1, by go_num, (by show _ = _; omega), ?_, ?_, ?_⟩
              · show Sl _ _ _ _ _
                rw [hDn, List.length_append, strs_snoc]
                exact hs4
              · exact own_from ho6.out (by simp; omega) hv4
              · exact ((hB6.out.trans (hbV.mono hz6)).alloc (by omega) _).grown hg4 (by simp; omega) (fun g hg => ho6.out g hg)
          · obtain ⟨q, hqi⟩ : ∃ q, P'[i - 1]? = some q := ⟨_, List.getElem?_eq_getElem (by rw [HF.out.2]; omega)⟩
            obtain ⟨r, hr⟩ : ∃ r, i - 1 = r := ⟨_, rfl⟩
            rw [hr] at hqi
            have e1 : wr.cell? ⟨g, r * 2 + 1, none⟩ = some (.slice q.A q.L.length q.c) := hcell _ _ (plC_1 hqi)
            have hlast : (P'.take i).getLast? = some q := by
              rw [List.getLast?_eq_getElem?, List.length_take, Nat.min_eq_left (by rw [HF.out.2]; omega), hr, List.getElem?_take_of_lt (by omega)]
              exact hqi
            rw [hlast] at hsn
            have hTp := HP2.out.1 p (List.mem_of_getElem? hpi)
            have hTq := HP2.out.1 q (List.mem_of_getElem? hqi)
            have hbx : Below w2.heap.size w2 (wr.alloc (.cells #[.string p.nm, .slice p.A p.L.length p.c] 139)) := hB6.out.alloc hB6.out.size _
            have hbx2 : ∀ n, Below w2.heap.size w2 ((wr.alloc (.cells #[.string p.nm, .slice p.A p.L.length p.c] 139)).drewN n) := fun n => below_drewN hbx n
            have HEQ := Lib.hid (fun n => equalL_any p.L q.L p.A q.A p.c q.c ((wr.alloc (.cells #[.string p.nm, .slice p.A p.L.length p.c] 139)).drewN n) (hTp.1.below (hbx2 n)) (hTq.1.below (hbx2 n)) hTp.2 hTq.2)
            have hi1 : ((i : Int) == 0) = false := by rw [beq_eq_false_iff_ne]; omega
            have hi2 : (i == 0) = false := by rw [beq_eq_false_iff_ne]; omega
            have hwr : IntKind.i64.wrap ((i : Int) - 1) = (r : Int) := by rw [IntKind.wrap_i64]; omega
            have hrI : (r : Int) < (ps.length : Int) := by omega
            have hiI : (i : Int) ≤ 1000 := by omega
            by_cases hpq : p.L = q.L
            · rw [decide_eq_true hpq] at HEQ
              rw [if_pos (by rw [hpq]), List.append_nil] at hsn
              have HSN := Lib.hid hsn
              have HW := Lib.hid hbx2
              clear hcell hSw hgc hgm hsn htk hpi hc61 hTp hTq hbx hbx2 hpq hlast hqi hr
              go_wp2_with (fail)
              go_quiet ((go_at_call 74; exact Calls.quiet_of (HEQ.out _)))
              clear hwr
              go_wp2_with (fail)
              go_roundg (ps.length - (i + 1))
              case measure => have := hg.out; omega
              case rel =>
                have hbV : Below wr.heap.size wr ((wr.alloc (.cells #[.string p.nm, .slice p.A p.L.length p.c] 139)).drewN nq) := below_drewN ((Below.refl _ _).alloc (Nat.le_refl _) _) nq
                refine ⟨i + 1, by go_num, (by show _ = _; have := hg.out; omega), ?_, ho6.out, HW.out nq⟩
                show Sl _ _ _ _ _
                rw [HSN.out, HD.out]
                exact hS7.out.below hbV hS7.out.lt
            · rw [decide_eq_false hpq] at HEQ
              rw [if_neg (by intro h; injection h with h; exact hpq h.symm)] at hsn
              have HSN := Lib.hid hsn
              have HW := Lib.hid hbx2
              clear hcell hSw hgc hgm hsn htk hpi hc61 hTp hTq hbx hbx2 hpq hlast hqi hr
              go_wp2_with (fail)
              go_quiet ((go_at_call 74; exact Calls.quiet_of (HEQ.out _)))
              clear hwr
              have hsn := HSN.out
              obtain ⟨V, hV⟩ : ∃ V, (wr.alloc (.cells #[.string p.nm, .slice p.A p.L.length p.c] 139)).drewN nq = V := ⟨_, rfl⟩
              have hbV : Below wr.heap.size wr V := by rw [← hV]; exact below_drewN ((Below.refl _ _).alloc (Nat.le_refl _) _) nq
              have hbox : Blk V wr.heap.size 139 #[.string p.nm, .slice p.A p.L.length p.c] := by rw [← hV]; exact Blk.new wr _ _
              have d0 := hbox.cell 0
              have hS6V := hS7.out.below hbV hS7.out.lt
              have HSL := Lib.hid (hS6V.alloc (.cells #[.string p.nm] 9))
              have HSR := Lib.hid (src_new (P := Tryz.prog) Tryz.underlying34 V 9 (.string p.nm) rfl)
              have HV := Lib.hid (And.intro hbV (And.intro hlt hsn))
              rw [hV]
              clear hV hbV hbox hS6V hsn c0 c1 e1
              go_wp2_with (at_builtin; go_must (refine wpList_append_sl _ rfl (.tmp 49) (.tmp 52) 34 34 rfl 9 j0 (.string ⟨#[]⟩) 1 16 Tryz.underlying34 hj0 hy0 hy1 hy2 rfl (.slice A6 D.length c6) D.length (strs D) rfl HSL.out _ rfl 1 [.string p.nm] HSR.out (by unfold maxLen; omega) (by omega) ?_); intro v4 w4 hs4 hg4 hv4; obtain ⟨A4, c4, rfl, hc4, hm4⟩ := hs4.shape; have H4 := Lib.hid (And.intro hs4 (And.intro hg4 hv4)); clear hs4 hg4 hv4 hc4 hm4)
              obtain ⟨hs4, hg4, hv4⟩ := H4.out
              obtain ⟨hbV, hlt, hsn⟩ := HV.out
              go_roundg (ps.length - (i + 1))
              case measure => have := hg.out; omega
              case rel =>
                have hz6 := hB6.out.size
                have hzV := hbV.size
                have hDn : (ddF Pl.L none (P'.take (i + 1))).map Pl.n = D ++ [p.n] := by rw [hsn, List.map_append, HD.out]; rfl
                refine ⟨i + 1, by go_num, (by show _ = _; omega), ?_, ?_, ?_⟩
                · show Sl _ _ _ _ _
                  rw [hDn, List.length_append, strs_snoc]
                  exact hs4
                · exact own_from ho6.out (by simp; omega) hv4
                · exact ((hB6.out.trans (hbV.mono hz6)).alloc (by omega) _).grown hg4 (by simp; omega) (fun g hg => ho6.out g hg)
        · obtain rfl : i = ps.length := by have := hg.out; omega
          have hfull := HF.out.1
          have hDS : D = sortN (xs.map fun x => x.data.toList) := by rw [← HD.out, ← HF.out.2, List.take_length, hfull]
          have H6 := Lib.hid hDS
          clear hfull hDS hlt hc61
          go_wp2_with (fail)
          go_ret
          have hbz := HP2.out.2.2.1.size
          rw [← H6.out]
          exact ⟨A6, c6, rfl, hS7.out, fun g hg => Nat.le_trans hbz (ho6.out g hg), HP2.out.2.2.1.trans (hB6.out.mono hbz)⟩
end Go.Proofs.YthnngndnpigjbaaGreat
