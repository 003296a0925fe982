/- The walk of slices.Equal at texts. Plain laws of package walk's Sort; rows of places that grow. -/
import Derived.Test.YtjhhhkhcnohmiaaTTab
import Derived.Test.YtjhhhkhcnohmiaaRef01
import Derived.Deep.QuietTactic
import Derived.BigQuiet
import Derived.Deep.LoopGhost
import Derived.Outline
import Derived.Test.YtjhhhkhcnohmiaaStable
namespace Go.Proofs.Ytjhhhkhcnohmiaa
open Go.RowKit Go.Lib

theorem eqL_no {xs ys : List Bs} {k : Nat} {x y : Bs} (hx : xs[k]? = some x) (hy : ys[k]? = some y) (h : x ≠ y) : decide (xs = ys) = false := by
  rw [decide_eq_false_iff_not]
  rintro rfl
  rw [hx] at hy
  cases hy
  exact h rfl

set_option maxRecDepth 100000 in
set_option maxHeartbeats 2000000 in
theorem equalL_any (xs ys : List Bs) (A B : Option Addr) (c d : Nat) (w : World) (hA : TTab w A (strs xs)) (hB : TTab w B (strs ys)) (hx : xs.length ≤ 1000000) (hy : ys.length ≤ 1000000) :
    Calls Try.prog 70 #[.slice A xs.length c, .slice B ys.length d] w fun e w' => e = .returned (.bool (decide (xs = ys))) ∧ ∃ m, w' = w.drewN m := by
  obtain ⟨z, hz⟩ : ∃ z, decide (xs = ys) = z := ⟨_, rfl⟩
  rw [hz]
  have hxI : (xs.length : Int) ≤ 1000000 := by omega
  have hyI : (ys.length : Int) ≤ 1000000 := by omega
  by_cases hne : xs.length = ys.length
  · have HA := Lib.hid (And.intro hA (And.intro hB (And.intro hz hne)))
    have hnn : ((xs.length : Int) != (ys.length : Int)) = false := by rw [hne]; simp
    have hnn2 : (xs.length != ys.length) = false := by rw [hne]; simp
    clear hA hB hz hne
    go_enter Try.func70, Try.ntmps70
    go_wp2_with (fail)
    go_loopg [5, 13] xs.length (fun g _ v wr => ∃ k : Nat, v = .int .i64 (k : Int) ∧ Aside (g + k = xs.length) ∧ Aside (xs.take k = ys.take k) ∧ ∃ m, wr = w.drewN m)
    case atStart => exact ⟨0, rfl, (by show _ + 0 = _; rfl), rfl, 0, rfl⟩
    case round =>
      obtain ⟨k, rfl, hg, hpre, m, rfl⟩ := hrel
      by_cases hlt : k < xs.length
      · obtain ⟨hA, hB, hz, hne⟩ := HA.out
        obtain ⟨a, o, rfl, hal, hac⟩ := hA (by simpa [strs] using (by omega : 0 < xs.length))
        obtain ⟨b, p, rfl, hbl, hbc⟩ := hB (by simpa [strs] using (by omega : 0 < ys.length))
        obtain ⟨x, hx0⟩ : ∃ x, xs[k]? = some x := ⟨_, List.getElem?_eq_getElem hlt⟩
        obtain ⟨y, hy0⟩ : ∃ y, ys[k]? = some y := ⟨_, List.getElem?_eq_getElem (by omega)⟩
        obtain ⟨V, hV⟩ : ∃ V, w.drewN m = V := ⟨_, rfl⟩
        have a0 : V.cell? ⟨a, o + k, none⟩ = some (.string ⟨x.toArray⟩) := by rw [← hV]; exact hac k _ (by simp [strs, hx0])
        have b0 : V.cell? ⟨b, p + k, none⟩ = some (.string ⟨y.toArray⟩) := by rw [← hV]; exact hbc k _ (by simp [strs, hy0])
        have hltI : (k : Int) < (xs.length : Int) := by omega
        have hltJ : (k : Int) < (ys.length : Int) := by omega
        have hkI : (k : Int) ≤ 1000000 := by omega
        rw [hV]
        have HV := Lib.hid hV
        by_cases hxy : x = y
        · subst hxy
          have hts : xs.take (k + 1) = ys.take (k + 1) := by
            obtain ⟨h1, h2⟩ := List.getElem?_eq_some_iff.1 hx0
            obtain ⟨h3, h4⟩ := List.getElem?_eq_some_iff.1 hy0
            rw [List.take_succ_eq_append_getElem h1, List.take_succ_eq_append_getElem h3, h2, h4, hpre.out]
          have HT := Lib.hid hts
          clear hac hbc hV hx0 hy0 hts hne hA hB hz hpre
          go_wp2_with (fail)
          go_quiet (fail)
          go_wp2_with (fail)
          go_roundg (xs.length - (k + 1))
          case measure => have := hg.out; omega
          case rel => exact ⟨k + 1, by go_num, (by show _ = _; omega), HT.out, m + nq, by rw [← HV.out, World.drewN_drewN]⟩
        · obtain ⟨x', hx'⟩ : ∃ x' : ByteArray, (⟨x.toArray⟩ : ByteArray) = x' := ⟨_, rfl⟩
          obtain ⟨y', hy'⟩ : ∃ y' : ByteArray, (⟨y.toArray⟩ : ByteArray) = y' := ⟨_, rfl⟩
          rw [hx'] at a0
          rw [hy'] at b0
          have hq1 : ¬ x'.toList = y'.toList := by
            rw [← hx', ← hy', ByteArray.toList_eq, ByteArray.toList_eq]
            exact hxy
          have hq : (x'.toList != y'.toList) = true := by rw [bne_iff_ne]; exact hq1
          have hq2 : (x'.toList == y'.toList) = false := by rw [beq_eq_false_iff_ne]; exact hq1
          have hzf := eqL_no hx0 hy0 hxy
          rw [hz] at hzf
          have HZ := Lib.hid hzf
          clear hac hbc hV hx0 hy0 hxy hx' hy' hq1 hne hA hB hz hpre hzf
          go_wp2_with (fail)
          go_quiet (fail)
          go_wp2_with (fail)
          go_ret
          rw [HZ.out]
          exact ⟨rfl, m + nq, by rw [← HV.out, World.drewN_drewN]⟩
      · obtain rfl : k = xs.length := by have := hg.out; omega
        obtain ⟨hA, hB, hz, hne⟩ := HA.out
        have hzt : z = true := by
          rw [← hz, decide_eq_true_iff]
          have h := hpre.out
          rw [List.take_length, hne, List.take_length] at h
          exact h
        have HZ := Lib.hid hzt
        clear hA hB hz hne hzt hpre
        go_wp2_with (fail)
        go_ret
        rw [HZ.out]
        exact ⟨rfl, m, rfl⟩
  · have hzf : z = false := by
      rw [← hz, decide_eq_false_iff_not]
      rintro rfl
      exact hne rfl
    subst hzf
    have hnn : ((xs.length : Int) != (ys.length : Int)) = true := by rw [bne_iff_ne]; omega
    have hnn2 : (xs.length != ys.length) = true := by rw [bne_iff_ne]; exact hne
    clear hA hB hz hne
    go_enter Try.func70, Try.ntmps70
    go_wp2_with (fail)
    go_ret
    exact ⟨rfl, 0, rfl⟩
end Go.Proofs.Ytjhhhkhcnohmiaa

namespace Go.Proofs.Ytjhhhkhcnohmiaa
open Go.RowKit Go.Lib

section
variable {α κ : Type} [DecidableEq κ] (key : α → κ)
/-- The first of each run of one key. -/
def ddF : Option κ → List α → List α
  | _, [] => []
  | pv, x :: l => if pv = some (key x) then ddF (some (key x)) l else x :: ddF (some (key x)) l
theorem ddF_snoc (x : α) : ∀ (l : List α) (pv : Option κ), ddF key pv (l ++ [x]) = ddF key pv l ++ (if (match l.getLast? with | some y => some (key y) | none => pv) = some (key x) then [] else [x])
  | [], pv => by
    show ddF key pv [x] = _
    unfold ddF
    split <;> simp [ddF, *]
  | y :: l, pv => by
    have ih := ddF_snoc x l (some (key y))
    have e : (match (y :: l).getLast? with | some z => some (key z) | none => pv) = (match l.getLast? with | some z => some (key z) | none => some (key y)) := by
      cases l with
      | nil => rfl
      | cons z l => rw [List.getLast?_cons_cons]; cases h : (z :: l).getLast? <;> simp_all
    show ddF key pv (y :: (l ++ [x])) = _
    rw [e]
    unfold ddF
    split
    · exact ih
    · rw [ih]; rfl
theorem ddF_length (key : α → κ) : ∀ (l : List α) (pv : Option κ), (ddF key pv l).length ≤ l.length
  | [], _ => Nat.le_refl _
  | x :: l, pv => by
    unfold ddF
    have := ddF_length key l (some (key x))
    split
    · simp; omega
    · simp; omega
theorem ddF_map {β : Type} (f : β → α) (key' : β → κ) : ∀ (l : List β) (pv : Option κ), (∀ x ∈ l, key' x = key (f x)) → (ddF key' pv l).map f = ddF key pv (l.map f)
  | [], _, _ => rfl
  | x :: l, pv, h => by
    have ih := ddF_map f key' l (some (key' x)) fun y hy => h y (List.mem_cons_of_mem _ hy)
    have hx := h x (by simp)
    show (ddF key' pv (x :: l)).map f = ddF key pv (f x :: l.map f)
    unfold ddF
    rw [← hx]
    split
    · exact ih
    · rw [List.map_cons, ih]
end
/-- The names of a list, in order, each once. -/
def sortN (l : List Bs) : List Bs := ddF ris none (sortK ris cmpL (l.filter isName))
def Pl.n (p : Pl) : Bs := p.nm.data.toList
theorem sortN_of {P' P : List Pl} {l : List Bs} (hP : P.map Pl.n = l.filter isName) (hk : ∀ p ∈ P, p.L = ris p.n) (h1 : SrtK Pl.L cmpL P') (h2 : StS Pl.L P' P) :
    (ddF Pl.L none P').map Pl.n = sortN l := by
  have hk' : ∀ p ∈ P', p.L = ris p.n := fun p hp => hk p (h2.mem hp)
  rw [ddF_map ris Pl.n Pl.L P' none hk']
  unfold sortN
  congr 1
  refine sortK_of cmpL_tot ?_ ?_
  · unfold SrtK at h1 ⊢
    rw [List.pairwise_map]
    refine h1.imp_of_mem ?_
    intro x y hx hy h
    rw [← hk' x hx, ← hk' y hy]
    exact h
  · intro k
    rw [← hP]
    have e : ∀ Q : List Pl, (∀ p ∈ Q, p.L = ris p.n) → (Q.map Pl.n).filter (fun y => decide (ris y = k)) = (Q.filter (fun y => decide (y.L = k))).map Pl.n := fun Q hQ => by
      rw [List.filter_map]
      congr 1
      apply List.filter_congr
      intro p hp
      show decide (ris p.n = k) = _
      rw [hQ p hp]
    rw [e P' hk', e P hk, h2 k]

theorem src_pl {P : Program} {tx e' : TypeId} (hk : P.underlying tx = some (.slice e')) (w : World) (t : TypeId) (u v : Value) (h1 : u.oneCell' = true) (h2 : v.oneCell' = true) : Src P 2 tx (.slice (some ⟨w.heap.size, 0, none⟩) 1 1) 1 [u, v] (w.alloc (.cells #[u, v] t)) :=
  Src.ofSlice _ hk ⟨w.heap.size, 0, none⟩ 1 1 [u, v] rfl (fun j x hx => by
    match j, hx with
    | 0, hx =>
      have : u = x := by simpa using hx
      subst this
      simp [Addr.add]
    | 1, hx =>
      have : v = x := by simpa using hx
      subst this
      simp [Addr.add]
    | j + 2, hx => simp at hx) (fun x hx => by
      rcases List.mem_cons.1 hx with rfl | hx
      · exact h1
      · rw [List.mem_singleton.1 hx]; exact h2)
theorem info_pl : (Try.prog.info? 80).map (fun i => (i.zero, i.size, i.bytes)) = some (some (.agg #[.string ⟨#[]⟩, .slice none 0 0]), 2, 40) := by kernel_rfl
/-- The labels of places lie beside the row v that is the call's own. -/
def PlV (w : World) (v : Value) (B : Nat) (ps : List Pl) : Prop :=
  (∀ g, v.ownBlock = some g → B ≤ g) ∧ ∀ p ∈ ps, TTab w p.A (strs p.L) ∧ (∀ a, p.A = some a → 0 < p.L.length → v.ownBlock ≠ some a.block) ∧ p.L.length ≤ 1000000
theorem plv_add {w w2 w' : World} {v v' : Value} {B n : Nat} {ps : List Pl} {xs : List Value} {p : Pl} {o : Obj} (h : PlV w v B ps) (hS : Sl w 2 v n xs) (hb : Below w.heap.size w w2) (hB : B ≤ w.heap.size)
    (hs : Sl w2 1 (.slice p.A p.L.length p.c) p.L.length (strs p.L)) (ho : ∀ g, (Value.slice p.A p.L.length p.c).ownBlock = some g → w.heap.size ≤ g) (hl : p.L.length ≤ 1000000)
    (hg : (w2.alloc o).grownBy w' v.ownBlock) (hv : v'.ownBlock = v.ownBlock ∨ v'.ownBlock = some (w2.alloc o).heap.size) : PlV w' v' B (ps ++ [p]) := by
  have hz := hb.size
  have key : ∀ (A : Option Addr) (L : List Bs), TTab w2 A (strs L) → (∀ a, A = some a → 0 < L.length → v.ownBlock ≠ some a.block) → TTab w' A (strs L) ∧ (∀ a, A = some a → 0 < L.length → v'.ownBlock ≠ some a.block) := by
    intro A L hT hne
    have hlt : ∀ a, A = some a → 0 < L.length → a.block < w2.heap.size := fun a ha hL => by
      obtain ⟨b, o', hA, hlt, _⟩ := hT (by rw [strs_len]; exact hL)
      rw [hA] at ha; cases ha
      exact hlt
    refine ⟨fun hn => ?_, fun a ha hL => ?_⟩
    · obtain ⟨b, o', hA, hlt', hc⟩ := hT hn
      rw [strs_len] at hn
      have hb' : v.ownBlock ≠ some b := hne _ hA hn
      refine ⟨b, o', hA, Nat.lt_of_lt_of_le hlt' (Nat.le_trans (by simp) hg.size), fun j u hu => ?_⟩
      rw [World.cell?_of_block (a := ⟨b, o' + j, none⟩) (hg.block b (by simp; omega) (fun e => hb' e.symm)), World.cell?_alloc_lt _ _ _ hlt']
      exact hc j u hu
    · rcases hv with e | e
      · rw [e]; exact hne a ha hL
      · rw [e]
        have := hlt a ha hL
        intro h
        injection h with h
        simp at h
        omega
  refine ⟨own_from h.1 (by simp; omega) hv, fun q hq => ?_⟩
  rcases List.mem_append.1 hq with hq | hq
  · obtain ⟨h1, h2, h3⟩ := h.2 q hq
    obtain ⟨k1, k2⟩ := key q.A q.L (h1.below hb) h2
    exact ⟨k1, k2, h3⟩
  · rw [List.mem_singleton.1 hq]
    have hTT := sl_tt hs
    obtain ⟨k1, k2⟩ := key p.A p.L hTT (fun a ha hL => by
      obtain ⟨g, cap, hvv, hgl, _⟩ := hs.form hL
      injection hvv with hA _ _
      rw [hA] at ha
      cases ha
      intro e
      have h1 := hS.lt g e
      have h2 := ho g (by rw [hA]; rfl)
      omega)
    exact ⟨k1, k2, hl⟩

set_option maxRecDepth 100000 in
theorem insSort_none (A : Option Addr) (c : Nat) (w : World) :
    Calls Try.prog 91 #[.slice A 0 c, .int .i64 0, .int .i64 0, .func (.func 69) #[] #[]] w fun e w' => e = .returned (.tuple #[]) ∧ w = w' := by
  go_enter Try.func91, Try.ntmps91
  go_wp2_with (fail)
  go_loopg [8] 0 (fun _ v8 wr => v8 = .int .i64 1 ∧ wr = w)
  case atStart => exact ⟨rfl, rfl⟩
  case round =>
    obtain ⟨rfl, rfl⟩ := hrel
    go_wp2_with (fail)
    refine bodyPost_end (results_none rfl _ _ _) rfl ?_
    exact ⟨rfl, rfl⟩
set_option maxRecDepth 100000 in
theorem stable_none (A : Option Addr) (c : Nat) (w : World) :
    Calls Try.prog 86 #[.slice A 0 c, .int .i64 0, .func (.func 69) #[] #[]] w fun e w' => e = .returned (.tuple #[]) ∧ w = w' := by
  have H1 := Lib.hid (fun W => insSort_none A c W)
  go_enter Try.func86, Try.ntmps86
  go_wp2_with (fail)
  go_loopg [7, 8] 0 (fun _ v7 v8 wr => v7 = .int .i64 0 ∧ v8 = .int .i64 20 ∧ wr = w)
  case atStart => exact ⟨rfl, rfl, rfl⟩
  case round =>
    obtain ⟨rfl, rfl, rfl⟩ := hrel
    go_wp2_with (fail)
    refine (H1.out _).mono ?_
    rintro e w1 ⟨rfl, rfl⟩
    go_wp2_with (fail)
    go_loopg [6, 7, 8, 9] 0 (fun _ v6 _ _ _ W => v6 = .int .i64 20 ∧ W = wr)
    case atStart => exact ⟨rfl, rfl⟩
    case round =>
      obtain ⟨rfl, rfl⟩ := hrel
      go_wp2_with (fail)
      refine bodyPost_end (results_none rfl _ _ _) rfl ?_
      exact ⟨rfl, rfl⟩
set_option maxRecDepth 100000 in
theorem sortStable_none (A : Option Addr) (c : Nat) (w : World) :
    Calls Try.prog 68 #[.slice A 0 c, .func (.func 69) #[] #[]] w fun e w' => e = .returned (.tuple #[]) ∧ w = w' := by
  have H := Lib.hid (stable_none A c w)
  go_enter Try.func68, Try.ntmps68
  go_wp2_with (fail)
  refine H.out.mono ?_
  rintro e w1 ⟨rfl, rfl⟩
  go_wp2_with (fail)
  refine bodyPost_end (results_none rfl _ _ _) rfl ?_
  exact ⟨rfl, rfl⟩

/-- The sort, whatever the row. -/
def SortedPost (v : Value) (P : List Pl) (w : World) (e : Ending) (w' : World) : Prop :=
  e = .returned (.tuple #[]) ∧ ∃ P', SrtK Pl.L cmpL P' ∧ StS Pl.L P' P ∧ Sl w' 2 v P.length (plC P') ∧ KeepK (fun i => i < w.heap.size ∧ v.ownBlock ≠ some i) w w'
theorem sorted_any {m : Nat} (hm : StableOk m) (A : Option Addr) (c B : Nat) (P : List Pl) (w : World) (hS : Sl w 2 (.slice A P.length c) P.length (plC P)) (hP : PlV w (.slice A P.length c) B P) (hn : P.length ≤ m) (hb : P.length ≤ 1000000) :
    Calls Try.prog 68 #[.slice A P.length c, .func (.func 69) #[] #[]] w (SortedPost (.slice A P.length c) P w) := by
  rcases Nat.eq_zero_or_pos P.length with h0 | h0
  · have hP0 : P = [] := List.eq_nil_of_length_eq_zero h0
    subst hP0
    refine (sortStable_none A c w).mono ?_
    rintro e w' ⟨rfl, rfl⟩
    exact ⟨rfl, [], List.Pairwise.nil, StS.refl _, hS, KeepK.refl _ _⟩
  · obtain ⟨g, cap, hv, hg, _⟩ := hS.form h0
    injection hv with hA _ _
    subst hA
    refine (sortStable_any hm g c P w hS (fun p hp => ?_) hn hb).mono ?_
    · obtain ⟨h1, h2, h3⟩ := hP.2 p hp
      exact ⟨h1, fun a ha hL e => h2 a ha hL (by rw [e]; rfl), h3⟩
    · rintro e w' ⟨rfl, P', h1, h2, h3, h4⟩
      refine ⟨rfl, P', h1, h2, h3, h4.mono fun i hi => ⟨hi.1, fun e => hi.2 (by rw [e]; rfl)⟩⟩
end Go.Proofs.Ytjhhhkhcnohmiaa
