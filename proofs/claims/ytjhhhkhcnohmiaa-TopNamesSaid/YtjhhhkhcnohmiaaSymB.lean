/- The walk of slices.symMergeCmpFunc at places, where there is one in front. The walk of slices.symMergeCmpFunc at places, where there is one behind. -/
import Derived.Test.YtjhhhkhcnohmiaaRotate
import Derived.Test.YtjhhhkhcnohmiaaMergeM
namespace Go.Proofs.Ytjhhhkhcnohmiaa
open Go.RowKit Go.Lib

/-- What a row of places holds when two parts of it were merged. -/
def MgPost (g c N : Nat) (X M Y : List Pl) (w : World) (e : Ending) (w' : World) : Prop :=
  e = .returned (.tuple #[]) ∧ ∃ M', SrtK Pl.L cmpL M' ∧ StS Pl.L M' M ∧ Sl w' 2 (.slice (some ⟨g, 0, none⟩) N c) N (plC (X ++ (M' ++ Y))) ∧ KeepK (fun i => i < w.heap.size ∧ i ≠ g) w w'
theorem at_behind {α : Type} (X M Y : List α) {k : Nat} (h : k < M.length) : (X ++ (M ++ Y))[X.length + k]? = M[k]? := by
  rw [List.getElem?_append_right (by omega), Nat.add_sub_cancel_left, List.getElem?_append_left h]
theorem half (n : Nat) : n / 2 * 2 ≤ n ∧ n < n / 2 * 2 + 2 := by omega

set_option maxRecDepth 100000 in
set_option maxHeartbeats 8000000 in
theorem sym_front (g c a m b N : Nat) (X R Y : List Pl) (x : Pl) (w : World) (hS : Sl w 2 (.slice (some ⟨g, 0, none⟩) N c) N (plC (X ++ (x :: R ++ Y)))) (hP : PlOk w g (x :: R))
    (hN : (X ++ (x :: R ++ Y)).length = N) (hn : N ≤ 1000000) (ha : a = X.length) (hm : m = a + 1) (hb : b = m + R.length) (hR : SrtK Pl.L cmpL R) :
    Calls Try.prog 92 #[.slice (some ⟨g, 0, none⟩) N c, .int .i64 (a : Int), .int .i64 (m : Int), .int .i64 (b : Int), .func (.func 69) #[] #[]] w (MgPost g c N X (x :: R) Y w) := by
  have hN3 : N = X.length + (1 + R.length + Y.length) := by rw [← hN]; simp; omega
  have hNI : (N : Int) ≤ 1000000 := by omega
  have haI : (a : Int) ≤ 1000000 := by omega
  have hmI : (m : Int) ≤ 1000000 := by omega
  have hbI : (b : Int) ≤ 1000000 := by omega
  have ht0 : ((m : Int) - (a : Int) == 1) = true := by simp; omega
  have HS := Lib.hid (And.intro hS (And.intro hP hR))
  have HAB := Lib.hid (And.intro ha (And.intro hm (And.intro hb hN3)))
  clear hS hP hN hn ha hm hb hN3 hR
  go_enter Try.func92, Try.ntmps92
  go_wp2_with (fail)
  go_loopg [10, 11, 12] (b - m) (fun gg v10 v11 _ wr => ∃ i j : Nat, v10 = .int .i64 (i : Int) ∧ v11 = .int .i64 (j : Int) ∧ Aside (m ≤ i ∧ i ≤ j ∧ j ≤ b ∧ gg = j - i) ∧ Aside (i = m ∨ ∃ y, R[i - m - 1]? = some y ∧ cmpL y.L x.L < 0) ∧ Aside (j = b ∨ ∃ y, R[j - m]? = some y ∧ ¬ cmpL y.L x.L < 0) ∧ Aside (Below w.heap.size w wr))
  case atStart => exact ⟨m, b, rfl, rfl, ⟨Nat.le_refl _, by have := HAB.out; omega, Nat.le_refl _, rfl⟩, .inl rfl, .inl rfl, Below.refl _ _⟩
  case round =>
    obtain ⟨i, j, rfl, rfl, hij, hlo, hhi, hB⟩ := hrel
    have hiI : (i : Int) ≤ 1000000 := by have := hij.out; omega
    have hjI : (j : Int) ≤ 1000000 := by have := hij.out; omega
    by_cases hlt : i < j
    · have hltI : (i : Int) < (j : Int) := by omega
      obtain ⟨k, hk⟩ : ∃ k, (i + j) / 2 = k := ⟨_, rfl⟩
      have hh : ((i : Int) + (j : Int)) / 2 = (k : Int) := by omega
      have hk1 : i ≤ k := by omega
      have hk2 : k < j := by omega
      obtain ⟨y, hy⟩ : ∃ y, R[k - m]? = some y := ⟨_, List.getElem?_eq_getElem (by have := hij.out; have := HAB.out; omega)⟩
      have hRow : Sl wr 2 (.slice (some ⟨g, 0, none⟩) N c) N (plC (X ++ (x :: R ++ Y))) := HS.out.1.below hB.out HS.out.1.lt
      have hatx : (X ++ (x :: R ++ Y))[k]? = some y := by
        have h1 := at_behind X (x :: R) Y (k := k - m + 1) (by have := hij.out; have := HAB.out; simp; omega)
        rw [show X.length + (k - m + 1) = k by have := hij.out; have := HAB.out; omega, List.getElem?_cons_succ, hy] at h1
        exact h1
      have hats : (X ++ (x :: R ++ Y))[a]? = some x := by
        have h1 := at_behind X (x :: R) Y (k := 0) (by simp)
        rw [Nat.add_zero, ← HAB.out.1] at h1
        exact h1
      have hPl : PlOk wr g (x :: R) := HS.out.2.1.keep (KeepK.of_below hB.out fun i hi => hi.1)
      have hxm : y ∈ x :: R := List.mem_cons_of_mem _ (List.mem_of_getElem? hy)
      have hsm : x ∈ x :: R := by simp
      have hkN : (k : Int) < (N : Int) := by have := hij.out; have := HAB.out; omega
      have haN : (a : Int) < (N : Int) := by have := HAB.out; omega
      have hkI : (k : Int) ≤ 1000000 := by omega
      have HY := Lib.hid (And.intro hy (And.intro hk1 hk2))
      have c0 : wr.cell? ⟨g, k * 2, none⟩ = some (.string y.nm) := hRow.cell rfl (plC_0 hatx)
      have c1 : wr.cell? ⟨g, k * 2 + 1, none⟩ = some (.slice y.A y.L.length y.c) := hRow.cell rfl (plC_1 hatx)
      have d0 : wr.cell? ⟨g, a * 2, none⟩ = some (.string x.nm) := hRow.cell rfl (plC_0 hats)
      have d1 : wr.cell? ⟨g, a * 2 + 1, none⟩ = some (.slice x.A x.L.length x.c) := hRow.cell rfl (plC_1 hats)

      have hgl : g < wr.heap.size := hRow.lt g rfl
      have hcall : ∀ W, Below wr.heap.size wr W → Calls Try.prog 69 #[.agg #[.string y.nm, .slice y.A y.L.length y.c], .agg #[.string x.nm, .slice x.A x.L.length x.c]] W fun e w' => e = .returned (.int .i64 (cmpL y.L x.L)) ∧ Below W.heap.size W w' := fun W hW =>
        cmpPl_any y x W g (hPl.keep (KeepK.of_below hW fun i hi => hi.1)) hxm hsm
      have HCL := Lib.hid hcall
      have hrefl : Below wr.heap.size wr wr := Below.refl _ _
      obtain ⟨z, hz⟩ : ∃ z, cmpL y.L x.L = z := ⟨_, rfl⟩
      rw [hz] at HCL
      have HZ := Lib.hid hz
      clear hz hatx hats hPl hxm hsm hcall hRow hk hk1 hk2 hlt hy
      go_wp2_with (fail)

      try clear hh
      go_region_held3 (fun w' => w'.cell? ⟨g, k * 2, none⟩ = some (.string y.nm) ∧ w'.cell? ⟨g, k * 2 + 1, none⟩ = some (.slice y.A y.L.length y.c) ∧ w'.cell? ⟨g, a * 2, none⟩ = some (.string x.nm) ∧ w'.cell? ⟨g, a * 2 + 1, none⟩ = some (.slice x.A x.L.length x.c) ∧ wr.heap.size ≤ w'.heap.size ∧ Below wr.heap.size wr w')
        (first | assumption | exact ⟨c0, c1, d0, d1, Nat.le_refl _, hrefl⟩ | exact k4D (by assumption) | exact k4D ⟨c0, c1, d0, d1, Nat.le_refl _, hrefl⟩ | exact k4C hgl (by assumption) hb | exact k4C hgl (k4D (by assumption)) hb | exact k4C hgl (k4D ⟨c0, c1, d0, d1, Nat.le_refl _, hrefl⟩) hb | exact k4C hgl ⟨c0, c1, d0, d1, Nat.le_refl _, hrefl⟩ hb)
        (first
          | (go_at_call 69; refine (HCL.out _ (l6 (by assumption))).mono ?_; rintro e w' ⟨rfl, hb⟩; have hbs := hb.size))
      have hcc : w'.cell? ⟨g, k * 2, none⟩ = some (.string y.nm) ∧ w'.cell? ⟨g, k * 2 + 1, none⟩ = some (.slice y.A y.L.length y.c) ∧ w'.cell? ⟨g, a * 2, none⟩ = some (.string x.nm) ∧ w'.cell? ⟨g, a * 2 + 1, none⟩ = some (.slice x.A x.L.length x.c) ∧ wr.heap.size ≤ w'.heap.size ∧ Below wr.heap.size wr w' := by assumption
      obtain ⟨c0', c1', d0', d1', hsz', hbf0⟩ := hcc
      have HBF := Lib.hid hbf0
      clear hbf0 c0 c1 d0 d1 hrefl c0' c1' d0' d1'
      by_cases hz0 : z < 0
      · go_wp2_with (fail)
        go_roundg (j - (k + 1))
        case measure => have := hij.out; have := HY.out; omega
        case rel =>
          obtain ⟨h1, h2, h3, h4⟩ := hij.out
          obtain ⟨q1, q2, q3⟩ := HY.out
          refine ⟨k + 1, j, by go_num, rfl, ⟨by omega, by omega, h3, rfl⟩, .inr ⟨y, ?_, by rw [HZ.out]; exact hz0⟩, hhi, hB.out.trans (HBF.out.mono hB.out.size)⟩
          rw [show k + 1 - m - 1 = k - m by omega]; exact q1
      · go_wp2_with (fail)
        go_roundg (k - i)
        case measure => have := hij.out; have := HY.out; omega
        case rel =>
          obtain ⟨h1, h2, h3, h4⟩ := hij.out
          obtain ⟨q1, q2, q3⟩ := HY.out
          exact ⟨i, k, rfl, rfl, ⟨by omega, by omega, by omega, rfl⟩, hlo, .inr ⟨y, q1, by rw [HZ.out]; exact hz0⟩, hB.out.trans (HBF.out.mono hB.out.size)⟩
    · have hltI : ¬ (i : Int) < (j : Int) := by omega
      obtain rfl : i = j := by have := hij.out; omega
      obtain ⟨t, ht⟩ : ∃ t, i - m = t := ⟨_, rfl⟩
      have hfin := ins_front cmpL_tot (key := Pl.L) HS.out.2.2 (x := x) (j := t)
        (by rcases hlo.out with h | ⟨y, h1, h2⟩
            · left; omega
            · right; exact ⟨y, by rw [← ht]; exact h1, h2⟩)
        (by rcases hhi.out with h | ⟨y, h1, h2⟩
            · left; have := HAB.out; omega
            · right; exact ⟨y, by rw [← ht]; exact h1, h2⟩)
      have hti : i = a + 1 + t ∧ t ≤ R.length := by have := hij.out; have := HAB.out; omega
      have HF := Lib.hid (And.intro hfin hti)
      have HS2 := Lib.hid (HS.out.1.below hB.out HS.out.1.lt)
      clear hfin ht hlo hhi hti hlt
      go_wp2_with (fail)
      go_loopg [13] t (fun gg v13 wr => ∃ u k : Nat, v13 = .int .i64 (k : Int) ∧ Aside (k = a + u) ∧ Aside (gg + u = t) ∧ Aside (Sl wr 2 (.slice (some ⟨g, 0, none⟩) N c) N (plC (X ++ ((R.take u ++ x :: R.drop u) ++ Y)))) ∧ Aside (KeepK (fun i => i < w.heap.size ∧ i ≠ g) w wr))
      case atStart => exact ⟨0, a, rfl, rfl, rfl, HS2.out, KeepK.of_below hB.out fun i hi => hi.1⟩
      case round =>
        rename_i wq _ _ _
        obtain ⟨u, k, rfl, hku, hgu, hRow0, hK⟩ := hrel
        have hkI : (k : Int) ≤ 1000000 := by have := hku.out; have := hgu.out; have := HF.out.2; omega
        by_cases hlt : u < t
        · obtain ⟨s, hs⟩ : ∃ s, R[u]? = some s := ⟨_, List.getElem?_eq_getElem (by have := HF.out.2; omega)⟩
          have hlt2 : (k : Int) < (i : Int) - 1 := by have := hku.out; have := HF.out.2; omega
          obtain ⟨q, hq⟩ : ∃ q, k + 1 = q := ⟨_, rfl⟩
          obtain ⟨h1, h2⟩ := List.getElem?_eq_some_iff.1 hs
          have eD : X ++ ((R.take u ++ x :: R.drop u) ++ Y) = (X ++ R.take u) ++ x :: ([] ++ s :: (R.drop (u + 1) ++ Y)) := by rw [List.drop_eq_getElem_cons h1, h2]; simp
          have eE : X ++ ((R.take (u + 1) ++ x :: R.drop (u + 1)) ++ Y) = (X ++ R.take u) ++ s :: ([] ++ x :: (R.drop (u + 1) ++ Y)) := by rw [List.take_succ_eq_append_getElem h1, h2]; simp
          have hRow := hRow0.out
          rw [eD] at hRow
          have lk : k = (X ++ R.take u).length := by have := hku.out; have := HAB.out; simp; omega
          have lq : q = (X ++ R.take u).length + 1 + ([] : List Pl).length := by rw [← lk, ← hq]; rfl
          have hkN : k < N := by have := hku.out; have := HAB.out; omega
          have hqN : q < N := by have := hku.out; have := HAB.out; omega
          have hatx := at_fst (X ++ R.take u) [] (R.drop (u + 1) ++ Y) x s
          have hats := at_snd (X ++ R.take u) [] (R.drop (u + 1) ++ Y) x s
          rw [← lk] at hatx
          rw [← lq] at hats
          have hSW := swap_mid2 (X ++ R.take u) [] (R.drop (u + 1) ++ Y) x s lk lq
          have hkNI : (k : Int) < (N : Int) := by omega
          have hqNI : (q : Int) < (N : Int) := by omega
          have hw1 : IntKind.i64.wrap ((k : Int) + 1) = (q : Int) := by rw [IntKind.wrap_i64]; omega
          have HJ := Lib.hid (And.intro hSW (And.intro eE (And.intro hkN (And.intro hqN (And.intro hlt hq)))))
          have c0 : wr.cell? ⟨g, k * 2, none⟩ = some (.string x.nm) := hRow.cell rfl (plC_0 hatx)
          have c1 : wr.cell? ⟨g, k * 2 + 1, none⟩ = some (.slice x.A x.L.length x.c) := hRow.cell rfl (plC_1 hatx)
          have d0 : wr.cell? ⟨g, q * 2, none⟩ = some (.string s.nm) := hRow.cell rfl (plC_0 hats)
          have d1 : wr.cell? ⟨g, q * 2 + 1, none⟩ = some (.slice s.A s.L.length s.c) := hRow.cell rfl (plC_1 hats)

          have f0 := hRow.free (g := g) rfl (j := k * 2) (by omega)
          have f1 := hRow.free (g := g) rfl (j := k * 2 + 1) (by omega)
          have f2 := hRow.free (g := g) rfl (j := q * 2) (by omega)
          have f3 := hRow.free (g := g) rfl (j := q * 2 + 1) (by omega)
          have n1 : (⟨g, q * 2, none⟩ : Addr) ≠ ⟨g, k * 2, none⟩ := by intro h; injection h; omega
          have n2 : (⟨g, q * 2, none⟩ : Addr) ≠ ⟨g, k * 2 + 1, none⟩ := by intro h; injection h; omega
          have n3 : (⟨g, q * 2 + 1, none⟩ : Addr) ≠ ⟨g, k * 2, none⟩ := by intro h; injection h; omega
          have n4 : (⟨g, q * 2 + 1, none⟩ : Addr) ≠ ⟨g, k * 2 + 1, none⟩ := by intro h; injection h; omega
          have u0 : ((wr.setCell ⟨g, k * 2, none⟩ (.string s.nm)).setCell ⟨g, k * 2 + 1, none⟩ (.slice s.A s.L.length s.c)).cell? ⟨g, q * 2, none⟩ = some (.string s.nm) := by rw [World.cell?_setCell_other _ _ _ _ n2.symm, World.cell?_setCell_other _ _ _ _ n1.symm]; exact d0
          have u1 : ((wr.setCell ⟨g, k * 2, none⟩ (.string s.nm)).setCell ⟨g, k * 2 + 1, none⟩ (.slice s.A s.L.length s.c)).cell? ⟨g, q * 2 + 1, none⟩ = some (.slice s.A s.L.length s.c) := by rw [World.cell?_setCell_other _ _ _ _ n4.symm, World.cell?_setCell_other _ _ _ _ n3.symm]; exact d1
          have u2 : (((wr.setCell ⟨g, k * 2, none⟩ (.string s.nm)).setCell ⟨g, k * 2 + 1, none⟩ (.slice s.A s.L.length s.c)).setCell ⟨g, q * 2, none⟩ (.string x.nm)).cell? ⟨g, q * 2 + 1, none⟩ = some (.slice s.A s.L.length s.c) := by rw [World.cell?_setCell_other _ _ _ _ (by intro h; injection h; omega)]; exact u1
          have HRW := Lib.hid hRow
          clear hatx hats hRow  hSW eE eD hkN hqN hq hlt lk lq hs h2
          go_wp2_with (fail)
          go_region
          clear u0 u1 u2 n1 n2 n3 n4 c0 c1 d0 d1 f0 f1 f2 f3
          go_wp2_with (fail)
          obtain ⟨hSW, eE, hkN, hqN, hlt, hq⟩ := HJ.out
          clear hw1
          go_roundg (t - (u + 1))
          case measure => have := hgu.out; omega
          case rel =>
            refine ⟨u + 1, k + 1, by go_num, (by show _ = _; have := hku.out; omega), (by show _ = _; have := hgu.out; omega), ?_, (keep_swap k q x s hK.out).drew⟩
            show Sl _ _ _ _ _
            have h2 := sl_swap x s HRW.out hkN hqN
            rw [hSW, ← eE] at h2
            exact h2.drew
        · have hlt2 : ¬ (k : Int) < (i : Int) - 1 := by have := hku.out; have := HF.out.2; omega
          have hut : u = t := by have := hgu.out; omega
          have HU := Lib.hid hut
          clear hut hlt
          go_wp2_with (fail)
          refine bodyPost_end (results_none rfl _ _ _) rfl ?_
          refine ⟨rfl, R.take t ++ x :: R.drop t, HF.out.1.1, HF.out.1.2, ?_, hK.out⟩
          have h1 := hRow0.out
          rw [HU.out] at h1
          exact h1
end Go.Proofs.Ytjhhhkhcnohmiaa

namespace Go.Proofs.Ytjhhhkhcnohmiaa
open Go.RowKit Go.Lib

theorem swap_mid3 (P Q R : List Pl) (y s : Pl) {j p : Nat} (hp : p = P.length) (hj : j = P.length + 1 + Q.length) : swp (P ++ s :: (Q ++ y :: R)) j p y s = P ++ y :: (Q ++ s :: R) := by
  subst hj hp
  unfold swp
  rw [List.set_append_right _ _ (by omega), List.set_append_right _ _ (by omega)]
  rw [show P.length + 1 + Q.length - P.length = Q.length + 1 by omega, List.set_cons_succ, List.set_append_right _ _ (by omega)]
  simp

set_option maxRecDepth 100000 in
set_option maxHeartbeats 8000000 in
theorem sym_back (g c a m b N : Nat) (X L Y : List Pl) (y : Pl) (w : World) (hS : Sl w 2 (.slice (some ⟨g, 0, none⟩) N c) N (plC (X ++ ((L ++ [y]) ++ Y)))) (hP : PlOk w g (L ++ [y]))
    (hN : (X ++ ((L ++ [y]) ++ Y)).length = N) (hn : N ≤ 1000000) (ha : a = X.length) (hm : m = a + L.length) (hb : b = m + 1) (hL2 : 2 ≤ L.length) (hL : SrtK Pl.L cmpL L) :
    Calls Try.prog 92 #[.slice (some ⟨g, 0, none⟩) N c, .int .i64 (a : Int), .int .i64 (m : Int), .int .i64 (b : Int), .func (.func 69) #[] #[]] w (MgPost g c N X (L ++ [y]) Y w) := by
  have hN3 : N = X.length + (L.length + 1 + Y.length) := by rw [← hN]; simp; omega
  have hNI : (N : Int) ≤ 1000000 := by omega
  have haI : (a : Int) ≤ 1000000 := by omega
  have hmI : (m : Int) ≤ 1000000 := by omega
  have hbI : (b : Int) ≤ 1000000 := by omega
  have ht0 : ((m : Int) - (a : Int) == 1) = false := by simp; omega
  have ht1 : ((b : Int) - (m : Int) == 1) = true := by simp; omega
  have HS := Lib.hid (And.intro hS (And.intro hP hL))
  have HAB := Lib.hid (And.intro ha (And.intro hm (And.intro hb hN3)))
  clear hS hP hN hn ha hm hb hN3 hL hL2
  go_enter Try.func92, Try.ntmps92
  go_wp2_with (fail)
  go_loopg [14, 15, 16] (m - a) (fun gg v14 v15 _ wr => ∃ i j : Nat, v14 = .int .i64 (i : Int) ∧ v15 = .int .i64 (j : Int) ∧ Aside (a ≤ i ∧ i ≤ j ∧ j ≤ m ∧ gg = j - i) ∧ Aside (i = a ∨ ∃ x, L[i - a - 1]? = some x ∧ ¬ cmpL y.L x.L < 0) ∧ Aside (j = m ∨ ∃ x, L[j - a]? = some x ∧ cmpL y.L x.L < 0) ∧ Aside (Below w.heap.size w wr))
  case atStart => exact ⟨a, m, rfl, rfl, ⟨Nat.le_refl _, by have := HAB.out; omega, Nat.le_refl _, rfl⟩, .inl rfl, .inl rfl, Below.refl _ _⟩
  case round =>
    obtain ⟨i, j, rfl, rfl, hij, hlo, hhi, hB⟩ := hrel
    have hiI : (i : Int) ≤ 1000000 := by have := hij.out; omega
    have hjI : (j : Int) ≤ 1000000 := by have := hij.out; omega
    by_cases hlt : i < j
    · have hltI : (i : Int) < (j : Int) := by omega
      obtain ⟨k, hk⟩ : ∃ k, (i + j) / 2 = k := ⟨_, rfl⟩
      have hh : ((i : Int) + (j : Int)) / 2 = (k : Int) := by omega
      have hk1 : i ≤ k := by omega
      have hk2 : k < j := by omega
      obtain ⟨x, hx⟩ : ∃ x, L[k - a]? = some x := ⟨_, List.getElem?_eq_getElem (by have := hij.out; have := HAB.out; omega)⟩
      have hRow : Sl wr 2 (.slice (some ⟨g, 0, none⟩) N c) N (plC (X ++ ((L ++ [y]) ++ Y))) := HS.out.1.below hB.out HS.out.1.lt
      have hatx : (X ++ ((L ++ [y]) ++ Y))[m]? = some y := by
        have h1 := at_behind X (L ++ [y]) Y (k := L.length) (by simp)
        rw [show X.length + L.length = m by have := HAB.out; omega] at h1
        rw [h1]; simp
      have hats : (X ++ ((L ++ [y]) ++ Y))[k]? = some x := by
        have h1 := at_behind X (L ++ [y]) Y (k := k - a) (by have := hij.out; have := HAB.out; simp; omega)
        rw [show X.length + (k - a) = k by have := hij.out; have := HAB.out; omega, List.getElem?_append_left (l₁ := L) (l₂ := [y]) (by have := hij.out; have := HAB.out; omega), hx] at h1
        exact h1
      have hPl : PlOk wr g (L ++ [y]) := HS.out.2.1.keep (KeepK.of_below hB.out fun i hi => hi.1)
      have hxm : y ∈ L ++ [y] := by simp
      have hsm : x ∈ L ++ [y] := List.mem_append_left _ (List.mem_of_getElem? hx)
      have hkN : (k : Int) < (N : Int) := by have := hij.out; have := HAB.out; omega
      have hmN : (m : Int) < (N : Int) := by have := HAB.out; omega
      have hkI : (k : Int) ≤ 1000000 := by omega
      have HY := Lib.hid (And.intro hx (And.intro hk1 hk2))
      have c0 : wr.cell? ⟨g, m * 2, none⟩ = some (.string y.nm) := hRow.cell rfl (plC_0 hatx)
      have c1 : wr.cell? ⟨g, m * 2 + 1, none⟩ = some (.slice y.A y.L.length y.c) := hRow.cell rfl (plC_1 hatx)
      have d0 : wr.cell? ⟨g, k * 2, none⟩ = some (.string x.nm) := hRow.cell rfl (plC_0 hats)
      have d1 : wr.cell? ⟨g, k * 2 + 1, none⟩ = some (.slice x.A x.L.length x.c) := hRow.cell rfl (plC_1 hats)

      have hgl : g < wr.heap.size := hRow.lt g rfl
      have hcall : ∀ W, Below wr.heap.size wr W → Calls Try.prog 69 #[.agg #[.string y.nm, .slice y.A y.L.length y.c], .agg #[.string x.nm, .slice x.A x.L.length x.c]] W fun e w' => e = .returned (.int .i64 (cmpL y.L x.L)) ∧ Below W.heap.size W w' := fun W hW =>
        cmpPl_any y x W g (hPl.keep (KeepK.of_below hW fun i hi => hi.1)) hxm hsm
      have HCL := Lib.hid hcall
      have hrefl : Below wr.heap.size wr wr := Below.refl _ _
      obtain ⟨z, hz⟩ : ∃ z, cmpL y.L x.L = z := ⟨_, rfl⟩
      rw [hz] at HCL
      have HZ := Lib.hid hz
      clear hz hatx hats hPl hxm hsm hcall hRow hk hk1 hk2 hlt hx
      by_cases hz0 : z < 0
      all_goals
        first | have hze : decide (z < 0) = true := decide_eq_true hz0 | have hze : decide (z < 0) = false := decide_eq_false hz0
        go_wp2_with (fail)

        try clear hh
        go_region_held3 (fun w' => w'.cell? ⟨g, m * 2, none⟩ = some (.string y.nm) ∧ w'.cell? ⟨g, m * 2 + 1, none⟩ = some (.slice y.A y.L.length y.c) ∧ w'.cell? ⟨g, k * 2, none⟩ = some (.string x.nm) ∧ w'.cell? ⟨g, k * 2 + 1, none⟩ = some (.slice x.A x.L.length x.c) ∧ wr.heap.size ≤ w'.heap.size ∧ Below wr.heap.size wr w')
          (first | assumption | exact ⟨c0, c1, d0, d1, Nat.le_refl _, hrefl⟩ | exact k4D (by assumption) | exact k4D ⟨c0, c1, d0, d1, Nat.le_refl _, hrefl⟩ | exact k4C hgl (by assumption) hb | exact k4C hgl (k4D (by assumption)) hb | exact k4C hgl (k4D ⟨c0, c1, d0, d1, Nat.le_refl _, hrefl⟩) hb | exact k4C hgl ⟨c0, c1, d0, d1, Nat.le_refl _, hrefl⟩ hb)
          (first
            | (go_at_call 69; refine (HCL.out _ (l6 (by assumption))).mono ?_; rintro e w' ⟨rfl, hb⟩; have hbs := hb.size))
        have hcc : w'.cell? ⟨g, m * 2, none⟩ = some (.string y.nm) ∧ w'.cell? ⟨g, m * 2 + 1, none⟩ = some (.slice y.A y.L.length y.c) ∧ w'.cell? ⟨g, k * 2, none⟩ = some (.string x.nm) ∧ w'.cell? ⟨g, k * 2 + 1, none⟩ = some (.slice x.A x.L.length x.c) ∧ wr.heap.size ≤ w'.heap.size ∧ Below wr.heap.size wr w' := by assumption
        obtain ⟨c0', c1', d0', d1', hsz', hbf0⟩ := hcc
        have HBF := Lib.hid hbf0
        clear hbf0 c0 c1 d0 d1 hrefl c0' c1' d0' d1'
      · try go_wp2_with (fail)
        go_roundg (k - i)
        case measure => have := hij.out; have := HY.out; omega
        case rel =>
          obtain ⟨h1, h2, h3, h4⟩ := hij.out
          obtain ⟨q1, q2, q3⟩ := HY.out
          exact ⟨i, k, rfl, rfl, ⟨by omega, by omega, by omega, rfl⟩, hlo, .inr ⟨x, q1, by rw [HZ.out]; exact hz0⟩, hB.out.trans (HBF.out.mono hB.out.size)⟩
      · try go_wp2_with (fail)
        go_roundg (j - (k + 1))
        case measure => have := hij.out; have := HY.out; omega
        case rel =>
          obtain ⟨h1, h2, h3, h4⟩ := hij.out
          obtain ⟨q1, q2, q3⟩ := HY.out
          refine ⟨k + 1, j, by go_num, rfl, ⟨by omega, by omega, h3, rfl⟩, .inr ⟨x, ?_, by rw [HZ.out]; exact hz0⟩, hhi, hB.out.trans (HBF.out.mono hB.out.size)⟩
          rw [show k + 1 - a - 1 = k - a by omega]; exact q1
    · have hltI : ¬ (i : Int) < (j : Int) := by omega
      obtain rfl : i = j := by have := hij.out; omega
      obtain ⟨t, ht⟩ : ∃ t, i - a = t := ⟨_, rfl⟩
      have hfin := ins_back cmpL_tot (key := Pl.L) HS.out.2.2 (y := y) (i := t)
        (by rcases hlo.out with h | ⟨x, h1, h2⟩
            · left; omega
            · right; exact ⟨x, by rw [← ht]; exact h1, h2⟩)
        (by rcases hhi.out with h | ⟨x, h1, h2⟩
            · left; have := HAB.out; omega
            · right; exact ⟨x, by rw [← ht]; exact h1, h2⟩)
      have hti : i = a + t ∧ t ≤ L.length := by have := hij.out; have := HAB.out; omega
      have HF := Lib.hid (And.intro hfin hti)
      have HS2 := Lib.hid (HS.out.1.below hB.out HS.out.1.lt)
      clear hfin ht hlo hhi hti hlt
      go_wp2_with (fail)
      go_loopg [17] (L.length - t) (fun gg v17 wr => ∃ u k : Nat, v17 = .int .i64 (k : Int) ∧ Aside (k = a + u) ∧ Aside (gg + t = u ∧ u ≤ L.length) ∧ Aside (Sl wr 2 (.slice (some ⟨g, 0, none⟩) N c) N (plC (X ++ ((L.take u ++ y :: L.drop u) ++ Y)))) ∧ Aside (KeepK (fun i => i < w.heap.size ∧ i ≠ g) w wr))
      case atStart =>
        refine ⟨L.length, m, rfl, HAB.out.2.1, ⟨by have := HF.out.2; omega, Nat.le_refl _⟩, ?_, KeepK.of_below hB.out fun i hi => hi.1⟩
        show Sl _ _ _ _ _
        rw [List.take_length, List.drop_length]
        exact HS2.out
      case round =>
        obtain ⟨u, k, rfl, hku, hgu, hRow0, hK⟩ := hrel
        have hkI : (k : Int) ≤ 1000000 := by have := hku.out; have := hgu.out; have := HAB.out; omega
        by_cases hlt : t < u
        · obtain ⟨v, rfl⟩ : ∃ v, u = v + 1 := ⟨u - 1, by omega⟩
          obtain ⟨s, hs⟩ : ∃ s, L[v]? = some s := ⟨_, List.getElem?_eq_getElem (by have := hgu.out; omega)⟩
          have hlt2 : (i : Int) < (k : Int) := by have := hku.out; have := HF.out.2; omega
          obtain ⟨q, hq⟩ : ∃ q, k - 1 = q := ⟨_, rfl⟩
          obtain ⟨h1, h2⟩ := List.getElem?_eq_some_iff.1 hs
          have eD : X ++ ((L.take (v + 1) ++ y :: L.drop (v + 1)) ++ Y) = (X ++ L.take v) ++ s :: ([] ++ y :: (L.drop (v + 1) ++ Y)) := by rw [List.take_succ_eq_append_getElem h1, h2]; simp
          have eE : X ++ ((L.take v ++ y :: L.drop v) ++ Y) = (X ++ L.take v) ++ y :: ([] ++ s :: (L.drop (v + 1) ++ Y)) := by rw [List.drop_eq_getElem_cons h1, h2]; simp
          have hRow := hRow0.out
          rw [eD] at hRow
          have lq : q = (X ++ L.take v).length := by have := hku.out; have := HAB.out; simp; omega
          have lk : k = (X ++ L.take v).length + 1 + ([] : List Pl).length := by rw [← lq, ← hq]; have := hku.out; simp; omega
          have hkN : k < N := by have := hku.out; have := hgu.out; have := HAB.out; omega
          have hqN : q < N := by omega
          have hats := at_fst (X ++ L.take v) [] (L.drop (v + 1) ++ Y) s y
          have hatx := at_snd (X ++ L.take v) [] (L.drop (v + 1) ++ Y) s y
          rw [← lk] at hatx
          rw [← lq] at hats
          have hSW := swap_mid3 (X ++ L.take v) [] (L.drop (v + 1) ++ Y) y s lq lk
          have hkNI : (k : Int) < (N : Int) := by omega
          have hqNI : (q : Int) < (N : Int) := by omega
          have hqk : q + 1 = k := by have := hku.out; omega
          have hw1 : IntKind.i64.wrap ((k : Int) - 1) = (q : Int) := by rw [IntKind.wrap_i64]; omega
          have HJ := Lib.hid (And.intro hSW (And.intro eE (And.intro hkN (And.intro hqN (And.intro hlt hqk)))))
          have c0 : wr.cell? ⟨g, k * 2, none⟩ = some (.string y.nm) := hRow.cell rfl (plC_0 hatx)
          have c1 : wr.cell? ⟨g, k * 2 + 1, none⟩ = some (.slice y.A y.L.length y.c) := hRow.cell rfl (plC_1 hatx)
          have d0 : wr.cell? ⟨g, q * 2, none⟩ = some (.string s.nm) := hRow.cell rfl (plC_0 hats)
          have d1 : wr.cell? ⟨g, q * 2 + 1, none⟩ = some (.slice s.A s.L.length s.c) := hRow.cell rfl (plC_1 hats)

          have f0 := hRow.free (g := g) rfl (j := k * 2) (by omega)
          have f1 := hRow.free (g := g) rfl (j := k * 2 + 1) (by omega)
          have f2 := hRow.free (g := g) rfl (j := q * 2) (by omega)
          have f3 := hRow.free (g := g) rfl (j := q * 2 + 1) (by omega)
          have n1 : (⟨g, q * 2, none⟩ : Addr) ≠ ⟨g, k * 2, none⟩ := by intro h; injection h; omega
          have n2 : (⟨g, q * 2, none⟩ : Addr) ≠ ⟨g, k * 2 + 1, none⟩ := by intro h; injection h; omega
          have n3 : (⟨g, q * 2 + 1, none⟩ : Addr) ≠ ⟨g, k * 2, none⟩ := by intro h; injection h; omega
          have n4 : (⟨g, q * 2 + 1, none⟩ : Addr) ≠ ⟨g, k * 2 + 1, none⟩ := by intro h; injection h; omega
          have u0 : ((wr.setCell ⟨g, k * 2, none⟩ (.string s.nm)).setCell ⟨g, k * 2 + 1, none⟩ (.slice s.A s.L.length s.c)).cell? ⟨g, q * 2, none⟩ = some (.string s.nm) := by rw [World.cell?_setCell_other _ _ _ _ n2.symm, World.cell?_setCell_other _ _ _ _ n1.symm]; exact d0
          have u1 : ((wr.setCell ⟨g, k * 2, none⟩ (.string s.nm)).setCell ⟨g, k * 2 + 1, none⟩ (.slice s.A s.L.length s.c)).cell? ⟨g, q * 2 + 1, none⟩ = some (.slice s.A s.L.length s.c) := by rw [World.cell?_setCell_other _ _ _ _ n4.symm, World.cell?_setCell_other _ _ _ _ n3.symm]; exact d1
          have u2 : (((wr.setCell ⟨g, k * 2, none⟩ (.string s.nm)).setCell ⟨g, k * 2 + 1, none⟩ (.slice s.A s.L.length s.c)).setCell ⟨g, q * 2, none⟩ (.string y.nm)).cell? ⟨g, q * 2 + 1, none⟩ = some (.slice s.A s.L.length s.c) := by rw [World.cell?_setCell_other _ _ _ _ (by intro h; injection h; omega)]; exact u1
          have HRW := Lib.hid hRow
          clear hatx hats hRow  hSW eE eD hkN hqN hq hlt lk lq hs h2 hqk
          go_wp2_with (fail)
          go_region
          clear u0 u1 u2 n1 n2 n3 n4 c0 c1 d0 d1 f0 f1 f2 f3
          go_wp2_with (fail)
          obtain ⟨hSW, eE, hkN, hqN, hlt, hqk⟩ := HJ.out
          clear hw1
          go_roundg (v - t)
          case measure => have := hgu.out; omega
          case rel =>
            refine ⟨v, q, by first | rfl | (congr 1; omega), (by show _ = _; have := hku.out; omega), (by show _ ∧ _; have := hgu.out; omega), ?_, (keep_swap k q y s hK.out).drew⟩
            show Sl _ _ _ _ _
            have h2 := sl_swap y s HRW.out hkN hqN
            rw [hSW, ← eE] at h2
            exact h2.drew
        · have hlt2 : ¬ (i : Int) < (k : Int) := by have := hku.out; have := HF.out.2; omega
          have hut : u = t := by have := hgu.out; omega
          have HU := Lib.hid hut
          clear hut hlt
          go_wp2_with (fail)
          refine bodyPost_end (results_none rfl _ _ _) rfl ?_
          refine ⟨rfl, L.take t ++ y :: L.drop t, HF.out.1.1, HF.out.1.2, ?_, hK.out⟩
          have h1 := hRow0.out
          rw [HU.out] at h1
          exact h1
end Go.Proofs.Ytjhhhkhcnohmiaa
