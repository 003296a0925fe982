/- The walk of the wheel's heap's cut. Conditions: none. -/
import Derived.Test.YtkdijafnakpfhaaWheelP
import Derived.Test.YtkdijafnakpfhaaClear
namespace Go.Proofs.Ytkdijafnakpfhaa
open Go.RowKit Go.Lib

theorem flatV_takeTh : ∀ (Z : List Th) (m : Nat), (flatV Th.vs Z).take (m * 2) = flatV Th.vs (Z.take m)
  | [], m => by simp [flatV]
  | z :: Z, 0 => by simp [flatV]
  | z :: Z, m + 1 => by
    rw [flatV_cons, List.take_succ_cons, flatV_cons, ← flatV_takeTh Z m, show (m + 1) * 2 = m * 2 + 1 + 1 by omega]
    rfl
/-- The heap whose last thing is gone, but for its place. -/
structure CutY (w Y : World) (g mb q n c m : Nat) (zs : List Th) (f : Int → Option Nat) : Prop where
  bx : Blk Y g 57 #[.func (.func 17) #[] #[], .func (.func 18) #[] #[], .slice (some ⟨q, 0, none⟩) m c, .map (some mb)]
  it : Sl Y 2 (.slice (some ⟨q, 0, none⟩) m c) m (flatV Th.vs (zs.take m))
  mp : ∃ F, MapV Try.prog 3 Y mb n F ∧ RelF F f
  kp : KeepH g mb (some ⟨q, 0, none⟩) w Y
theorem cutY {w Y : World} {g mb q n c m : Nat} {zs : List Th} {f : Int → Option Nat} (h : HS w g mb (some ⟨q, 0, none⟩) c zs f n) (hm : zs.length = m + 1)
    (hY : (((w.setCell ⟨q, m * 2, none⟩ (.int .i64 0)).setCell ⟨q, m * 2 + 1, none⟩ (.int .i64 0)).setCell ⟨g, 2, none⟩ (.slice (some ⟨q, 0, none⟩) m c)) = Y) : CutY w Y g mb q n c m zs f := by
  have hne := h.ne.2 q rfl
  have e : ((w.setCell ⟨q, m * 2, none⟩ (.int .i64 0)).setCell ⟨q, m * 2 + 1, none⟩ (.int .i64 0)) = w.setCells q (m * 2) [.int .i64 0, .int .i64 0] := rfl
  have hi := h.it
  have hs := hi.cut m (by omega) [.int .i64 0, .int .i64 0] (by simp; omega)
  rw [flatV_takeTh, ← e] at hs
  have n' : ∀ o : Nat, g ≠ (⟨q, o, none⟩ : Addr).block := fun o => hne.1.symm
  have n2 : ∀ o : Nat, mb ≠ (⟨q, o, none⟩ : Addr).block := fun o => hne.2.symm
  obtain ⟨F, m1, m2⟩ := h.mp
  have hb := ((h.bx.far (n' (m * 2)) (.int .i64 0)).far (n' (m * 2 + 1)) (.int .i64 0)).set_ 2 (.slice (some ⟨q, 0, none⟩) m c)
  have k0 : ∀ o b, (b < w.heap.size ∧ b ≠ g ∧ b ≠ mb ∧ ∀ p : Addr, some (⟨q, 0, none⟩ : Addr) = some p → b ≠ p.block) → b ≠ (⟨q, o, none⟩ : Addr).block := fun o b hb => hb.2.2.2 ⟨q, 0, none⟩ rfl
  subst hY
  refine ⟨by simpa using hb, hs.far (p := ⟨g, 2, none⟩) (fun p hp => ?_) _, ⟨F, (((m1.far (n2 _) _).far (n2 _) _).far (p := ⟨g, 2, none⟩) (fun e => h.ne.1 e.symm) _), m2⟩, ?_⟩
  · have : q = p := by simpa [Value.ownBlock] using hp
    subst this
    exact hne.1
  · unfold KeepH
    exact (((KeepK.refl _ w).setCell (k0 _) _).setCell (k0 _) _).setCell (p := ⟨g, 2, none⟩) (fun b hb => hb.2.1) _
theorem drop_step {W : World} {mb n : Nat} {f : Int → Option Nat} (hm : ∃ F, MapV Try.prog 3 W mb n F ∧ RelF F f) (k : Int) (hk : -9223372036854775808 ≤ k ∧ k ≤ 9223372036854775807) (ty : TypeId) :
    ∀ w6, Below W.heap.size W w6 → ∃ w7, (Builtin.delete_ #[52, 3] ty #[.map (some mb), .int .i64 k]).run Try.prog w6 = .ok (.tuple #[]) w7 ∧ (∃ F, MapV Try.prog 3 w7 mb n F ∧ RelF F (delF f k)) ∧ w6.grownBy w7 (some mb) ∧ (∀ a, w7.cell? a = w6.cell? a) ∧ ∀ a, w7.frozen? a = w6.frozen? a := by
  obtain ⟨F, h1, h2⟩ := hm
  intro w6 hb
  have h6 := h1.below hb h1.lt
  obtain ⟨w7, hr, h7, hg, hc, hfz⟩ := h6.drop keyed_int35 Try.underlying52 (key_of_int hk) (key_int_isKey .i64 k) ty
  exact ⟨w7, hr, ⟨_, h7, relF_del h2 k⟩, hg, hc, hfz⟩
theorem cut_end {w w1 Y w6 w7 : World} {g mb q n c m : Nat} {zs : List Th} {f : Int → Option Nat} (h : HS w1 g mb (some ⟨q, 0, none⟩) c zs f n) (hm : zs.length = m + 1) (k01 : KeepH g mb (some ⟨q, 0, none⟩) w w1) (hY : CutY w1 Y g mb q n c m zs f)
    (b6 : Below Y.heap.size Y w6) (g7 : w6.grownBy w7 (some mb)) (hmp : ∃ F, MapV Try.prog 3 w7 mb n F ∧ RelF F (delF f (ath zs m).id)) :
    HS w7 g mb (some ⟨q, 0, none⟩) c (zs.take m) (delF f (ath zs m).id) n ∧ KeepH g mb (some ⟨q, 0, none⟩) w w7 := by
  have hne := h.ne.2 q rfl
  have hL : (zs.take m).length = m := by rw [List.length_take]; omega
  have hql : q < Y.heap.size := hY.it.lt q rfl
  have kk : ∀ b, b < Y.heap.size → b ≠ mb → w7.heap[b]? = Y.heap[b]? := fun b hb hn => by
    have z6 := b6.size
    rw [g7.block b (by omega) (fun e => hn (Option.some.inj e)), b6.block b hb]
  have zz : Y.heap.size ≤ w7.heap.size := Nat.le_trans b6.size g7.size
  refine ⟨⟨?_, ?_, hmp, ⟨h.ne.1, fun p hp => ?_⟩, h.pl.last hm.symm, fun x hx => h.ok x (List.mem_of_mem_take hx), ⟨h.nb.1, by rw [hL]; have := h.nb.2; omega⟩⟩, ?_⟩
  · rw [hL]
    exact (kk g hY.bx.lt h.ne.1).trans hY.bx
  · rw [hL]
    refine hY.it.keep zz fun p hp => ?_
    have : q = p := by simpa [Value.ownBlock] using hp
    subst this
    exact kk q hql hne.2
  · have : q = p := by simpa [Value.ownBlock] using hp
    subst this
    exact hne
  · refine k01.trans (hY.kp.trans ⟨?_, ?_, ?_, zz, fun b hb => kk b hb.1 hb.2.2.1⟩)
    · rw [g7.os, b6.os]
    · rw [g7.tape, b6.tape]
    · rw [g7.output, b6.output]

theorem HS.farc {w : World} {g mb n c : Nat} {A : Option Addr} {xs : List Th} {f : Int → Option Nat} (h : HS w g mb A c xs f n) {b : Nat} (hg : b ≠ g) (hm : b ≠ mb) (hA : ∀ q, A = some q → b ≠ q.block) (o : Nat) (v : Value) : HS (w.setCell ⟨b, o, none⟩ v) g mb A c xs f n := by
  obtain ⟨F, h1, h2⟩ := h.mp
  refine ⟨h.bx.far (p := ⟨b, o, none⟩) hg.symm v, h.it.far (p := ⟨b, o, none⟩) (fun p hp => ?_) v, ⟨F, h1.far (p := ⟨b, o, none⟩) hm.symm v, h2⟩, h.ne, h.pl, h.ok, h.nb⟩
  cases A with
  | none => simp [Value.ownBlock] at hp
  | some q =>
    have : q.block = p := by simpa [Value.ownBlock] using hp
    subst this
    exact (hA q rfl).symm
theorem keep4 {w w' : World} {a b c d : Addr} {x y z u : Option Value} (h : ∀ a, w'.cell? a = w.cell? a) (k : w.cell? a = x ∧ w.cell? b = y ∧ w.cell? c = z ∧ w.cell? d = u) : w'.cell? a = x ∧ w'.cell? b = y ∧ w'.cell? c = z ∧ w'.cell? d = u :=
  ⟨(h _).trans k.1, (h _).trans k.2.1, (h _).trans k.2.2.1, (h _).trans k.2.2.2⟩
/-- What cut leaves. -/
def CutP (g mb : Nat) (A : Option Addr) (n : Nat) (xs : List Th) (x : Th) (w : World) (e : Ending) (w' : World) : Prop :=
  e = .returned x.val ∧ ∃ c' ys f', HS w' g mb A c' ys f' n ∧ HeapL ys ∧ ys.length + 1 = xs.length ∧ (∀ y, y ∈ ys ↔ y ∈ xs ∧ y.id ≠ x.id) ∧ KeepH g mb A w w'
theorem cut_fin {w W : World} {g mb q n c m : Nat} {xs ys : List Th} {f f9 : Int → Option Nat} {xi : Th} (h : HS w g mb (some ⟨q, 0, none⟩) c xs f n) (hm : xs.length = m + 1)
    (k : HS W g mb (some ⟨q, 0, none⟩) c ys f9 n ∧ HeapL ys ∧ ys.length = m ∧ (∀ y, y ∈ ys ↔ y ∈ xs ∧ y.id ≠ xi.id) ∧ KeepH g mb (some ⟨q, 0, none⟩) w W ∧ Blk W w.heap.size 50 #[.int .i64 0, .int .i64 0] ∧ Blk W (w.heap.size + 1) 50 #[.int .i64 xi.id, .int .i64 xi.t]) :
    CutP g mb (some ⟨q, 0, none⟩) n xs xi w (.returned (.agg #[.int .i64 xi.id, .int .i64 xi.t])) ((W.setCell ⟨w.heap.size, 0, none⟩ (.int .i64 xi.id)).setCell ⟨w.heap.size, 1, none⟩ (.int .i64 xi.t)) := by
  have hq := h.it.lt q rfl
  have hgl := h.bx.lt
  obtain ⟨F, m1, _⟩ := h.mp
  have hml := m1.lt
  have hA : ∀ p : Addr, some (⟨q, 0, none⟩ : Addr) = some p → w.heap.size ≠ p.block := fun p hp => by
    injection hp with hp
    subst hp
    show w.heap.size ≠ q
    omega
  refine ⟨rfl, c, ys, f9, (k.1.farc (by omega) (by omega) hA _ _).farc (by omega) (by omega) hA _ _, k.2.1, by omega, k.2.2.2.1, ?_⟩
  have n0 : ∀ o b, (b < w.heap.size ∧ b ≠ g ∧ b ≠ mb ∧ ∀ p : Addr, some (⟨q, 0, none⟩ : Addr) = some p → b ≠ p.block) → b ≠ (⟨w.heap.size, o, none⟩ : Addr).block := fun o b hb => by
    show b ≠ w.heap.size
    have := hb.1
    omega
  unfold KeepH
  exact (KeepK.setCell k.2.2.2.2.1 (n0 _) _).setCell (n0 _) _
theorem swap_self {xs : List Th} {m : Nat} (hm : m < xs.length) : swapL xs m m = xs := by
  unfold swapL
  have h : (ath xs m) = xs[m] := ath_get (List.getElem?_eq_getElem hm)
  rw [h, List.set_set]
  simp

set_option maxRecDepth 100000 in
set_option maxHeartbeats 16000000 in
theorem cut_any {w : World} {g mb n c : Nat} {A : Option Addr} {xs : List Th} {f : Int → Option Nat} (h : HS w g mb A c xs f n) (hh : HeapL xs) (i : Nat) (hi : i < xs.length) :
    Calls Try.prog 23 #[.pointer (some ⟨g, 0, none⟩), .int .i64 (i : Int)] w (CutP g mb A n xs (ath xs i) w) := by
  obtain ⟨q, rfl, hq, hqg, hqm, ci0, ci1, _, _⟩ := h.at_ hi
  obtain ⟨m, hm⟩ : ∃ m, xs.length = m + 1 := ⟨xs.length - 1, by omega⟩
  have hi2 : i ≤ m := by omega
  have H := Lib.hid (And.intro h (And.intro hh (And.intro hi hm)))
  have HCM := Lib.hid (fun y => cut_mem (f := f) h.pl hm.symm hi y)
  have g2 := h.bx.cell 2
  have hgl := h.bx.lt
  obtain ⟨xi, hxi⟩ : ∃ x, ath xs i = x := ⟨_, rfl⟩
  have hxok : xi.ok := hxi ▸ h.ok _ (ath_mem hi)
  rw [hxi] at ci0 ci1 HCM ⊢
  have HXI := Lib.hid (And.intro hxi hxok)
  have hiI : (i : Int) < (xs.length : Int) := by omega
  have hl1 : (xs.length : Int) ≤ 1000 := by have := h.nb.2; omega
  have hsub : (xs.length : Int) - 1 = (m : Int) := by omega
  have hmI : (m : Int) < (xs.length : Int) := by omega
  clear h hh hi hm hxi hxok
  obtain ⟨V, hV⟩ : ∃ V, (w.alloc (.cells #[.int .i64 0, .int .i64 0] 50)).alloc (.cells #[.int .i64 xi.id, .int .i64 xi.t] 50) = V := ⟨_, rfl⟩
  have HV := Lib.hid (show Below w.heap.size w V ∧ Blk V w.heap.size 50 #[.int .i64 0, .int .i64 0] ∧ Blk V (w.heap.size + 1) 50 #[.int .i64 xi.id, .int .i64 xi.t] ∧ V.heap.size = w.heap.size + 2 from by
    rw [← hV]
    refine ⟨((Below.refl _ _).alloc (Nat.le_refl _) _).alloc (by simp) _, (Blk.new _ _ _).alloc _, ?_, by simp⟩
    have h1 := Blk.new (w.alloc (.cells #[.int .i64 0, .int .i64 0] 50)) 50 #[.int .i64 xi.id, .int .i64 xi.t]
    rw [World.size_alloc] at h1
    exact h1)
  by_cases him : i = m
  · have him2 : m = i := him.symm
    subst him2
    clear him
    have q1 : ((m : Int) != (m : Int)) = false := by simp
    go_enter Try.func23, Try.ntmps23
    go_wp2_with (fail)
    clear hV
    obtain ⟨W1, rfl⟩ : ∃ W1 : World, W1 = V := ⟨_, rfl⟩
    obtain ⟨zs, hzs⟩ : ∃ zs, zs = xs := ⟨_, rfl⟩
    obtain ⟨f1, hf1⟩ : ∃ f1, f1 = f := ⟨_, rfl⟩
    obtain ⟨r2, hr2⟩ : ∃ r2, W1.heap.size = r2 := ⟨_, rfl⟩
    rw [hr2]
    have HZ := Lib.hid (show HS W1 g mb (some ⟨q, 0, none⟩) c zs f1 n ∧ zs.length = m + 1 ∧ ath zs m = xi ∧ KeepH g mb (some ⟨q, 0, none⟩) w W1 ∧ Blk W1 w.heap.size 50 #[.int .i64 0, .int .i64 0] ∧ Blk W1 (w.heap.size + 1) 50 #[.int .i64 xi.id, .int .i64 xi.t] ∧ w.heap.size + 2 ≤ W1.heap.size from by
      subst hzs hf1
      exact ⟨H.out.1.below HV.out.1, H.out.2.2.2, HXI.out.1, KeepK.of_below HV.out.1 fun _ hb => hb.1, HV.out.2.1, HV.out.2.2.1, by have := HV.out.2.2.2; omega⟩)
    have hlm : xs.length = m + 1 := H.out.2.2.2
    rw [hlm]
    have HZF := Lib.hid (And.intro hzs hf1)
    clear hzs hf1
    clear g2 ci0 ci1 hsub hiI hmI hl1 hlm
    obtain ⟨W2, hW2⟩ : ∃ W2, W1.alloc (.cells #[.int .i64 0, .int .i64 0] 50) = W2 := ⟨_, rfl⟩
    have hb2 : Below W1.heap.size W1 W2 := by rw [← hW2]; exact (Below.refl _ _).alloc (Nat.le_refl _) _
    have H2 := Lib.hid (show HS W2 g mb (some ⟨q, 0, none⟩) c zs f1 n ∧ Blk W2 r2 50 #[.int .i64 0, .int .i64 0] ∧ Blk W2 w.heap.size 50 #[.int .i64 0, .int .i64 0] ∧ Blk W2 (w.heap.size + 1) 50 #[.int .i64 xi.id, .int .i64 xi.t] ∧ KeepH g mb (some ⟨q, 0, none⟩) w W2 ∧ W1.heap.size < W2.heap.size from by
      have hz := HZ.out
      refine ⟨hz.1.below hb2, ?_, hz.2.2.2.2.1.below hb2 hz.2.2.2.2.1.lt, hz.2.2.2.2.2.1.below hb2 hz.2.2.2.2.2.1.lt, hz.2.2.2.1.below_ hb2, by rw [← hW2]; simp⟩
      rw [← hW2, ← hr2]
      exact Blk.new _ _ _)
    rw [hW2]
    clear hW2 hb2
    obtain ⟨q', hq', hq2, _, _, cm0, cm1, fm0, fm1⟩ := H2.out.1.at_ (i := m) (by rw [HZ.out.2.1]; omega)
    injection hq' with hq'
    injection hq' with hq'
    subst hq'
    rw [HZ.out.2.2.1] at cm0 cm1
    have g2 := H2.out.1.bx.cell 2
    rw [HZ.out.2.1] at g2
    have x0 := H2.out.2.1.cell 0
    have x1 := H2.out.2.1.cell 1
    have hr2q : q ≠ r2 := by have := HZ.out.1.it.lt q rfl; omega
    have hr2g : g ≠ r2 := by have := HZ.out.1.bx.lt; omega
    have nA : ∀ a b : Nat, a ≠ b → (⟨q, a, none⟩ : Addr) ≠ ⟨q, b, none⟩ := fun a b hab h => by injection h with h1 h2; exact hab h2
    have nB : ∀ a b o : Nat, q ≠ b → (⟨q, a, none⟩ : Addr) ≠ ⟨b, o, none⟩ := fun a b o hab h => by injection h with h1 h2; exact hab h1
    have e1 : (W2.setCell ⟨q, m * 2, none⟩ (.int .i64 0)).cell? ⟨q, m * 2 + 1, none⟩ = some (.int .i64 xi.t) := by rw [World.cell?_setCell_other _ _ _ _ (nA _ _ (by omega))]; exact cm1
    obtain ⟨W3, hW3⟩ : ∃ X, (W2.setCell ⟨q, m * 2, none⟩ (.int .i64 0)).setCell ⟨q, m * 2 + 1, none⟩ (.int .i64 0) = X := ⟨_, rfl⟩
    have far3 : ∀ b o, q ≠ b → W3.cell? ⟨b, o, none⟩ = W2.cell? ⟨b, o, none⟩ := fun b o hb => by rw [← hW3, World.cell?_setCell_other _ _ _ _ (nB _ _ _ hb), World.cell?_setCell_other _ _ _ _ (nB _ _ _ hb)]
    have frz3 : W3.frozen? ⟨g, 2, none⟩ = false := by rw [← hW3, World.frozen?_setCell, World.frozen?_setCell]; exact H2.out.1.bx.frozen 2
    have d2 : W3.cell? ⟨g, 2, none⟩ = some (.slice (some ⟨q, 0, none⟩) (m + 1) c) := (far3 _ _ hqg).trans g2
    have hS0 : W2.drew.cell? ⟨g, 2, none⟩ = some (.slice (some ⟨q, 0, none⟩) (m + 1) c) ∧ W2.drew.cell? ⟨r2, 0, none⟩ = some (.int .i64 0) ∧ W2.drew.cell? ⟨r2, 1, none⟩ = some (.int .i64 0) := ⟨g2, x0, x1⟩
    have hS3 : W3.drew.cell? ⟨g, 2, none⟩ = some (.slice (some ⟨q, 0, none⟩) (m + 1) c) ∧ W3.drew.cell? ⟨r2, 0, none⟩ = some (.int .i64 0) ∧ W3.drew.cell? ⟨r2, 1, none⟩ = some (.int .i64 0) := ⟨d2, (far3 _ _ hr2q).trans x0, (far3 _ _ hr2q).trans x1⟩
    have hmc : (m : Int) ≤ (c : Int) := by
      obtain ⟨A', c', hv, h1, h2⟩ := H2.out.1.it.shape
      injection hv with _ _ hv
      have := HZ.out.2.1
      omega
    clear nA nB
    have hm0 : (0 : Int) ≤ (m : Int) := by omega
    have hmI2 : (m : Int) < ((m + 1 : Nat) : Int) := by omega
    have hmI3 : (m : Int) < (m : Int) + 1 := by omega
    go_region_held3 (fun w' => w'.cell? ⟨g, 2, none⟩ = some (.slice (some ⟨q, 0, none⟩) (m + 1) c) ∧ w'.cell? ⟨r2, 0, none⟩ = some (.int .i64 0) ∧ w'.cell? ⟨r2, 1, none⟩ = some (.int .i64 0))
      (first | with_reducible assumption | exact hS0 | exact hS3) (fail)
    go_wp2_with (fail)
    obtain ⟨Y, hY⟩ : ∃ Y, W3.setCell ⟨g, 2, none⟩ (.slice (some ⟨q, 0, none⟩) m c) = Y := ⟨_, rfl⟩
    have HY := Lib.hid (show CutY W2 Y g mb q n c m zs f1 ∧ Blk Y w.heap.size 50 #[.int .i64 0, .int .i64 0] ∧ Blk Y (w.heap.size + 1) 50 #[.int .i64 xi.id, .int .i64 xi.t] ∧ w.heap.size + 2 ≤ Y.heap.size from by
      have y : CutY W2 Y g mb q n c m zs f1 := cutY H2.out.1 HZ.out.2.1 (by rw [hW3]; exact hY)
      have hq := H.out.1.it.lt q rfl
      have hgl := H.out.1.bx.lt
      obtain ⟨F, m1, _⟩ := H.out.1.mp
      have hml := m1.lt
      have a1 := H2.out.2.2.1
      have a2 := H2.out.2.2.2.1
      have l1 := a1.lt
      have l2 := a2.lt
      have zz := y.kp.size
      refine ⟨y, (y.kp.block _ ⟨l1, by omega, by omega, fun p hp => ?_⟩).trans a1, (y.kp.block _ ⟨l2, by omega, by omega, fun p hp => ?_⟩).trans a2, by omega⟩
      · injection hp with hp
        subst hp
        show w.heap.size ≠ q
        omega
      · injection hp with hp
        subst hp
        show w.heap.size + 1 ≠ q
        omega)
    rw [hY]
    clear hY hW3 far3 frz3 d2 hS0 hS3 e1 cm0 cm1 fm0 fm1 g2 x0 x1 hmI2 hmI3
    have HD := Lib.hid (drop_step HY.out.1.mp xi.id HXI.out.2.1 0)
    have HKY := Lib.hid (fun W => show Calls Try.prog 18 #[.agg #[.int .i64 xi.id, .int .i64 xi.t]] W (fun e w' => e = .returned (.int .i64 xi.id) ∧ Below W.heap.size W w') from key35_any xi W)
    have HKA : RowKit.Hid (∀ w', Below Y.heap.size Y w' → w'.cell? ⟨g, 1, none⟩ = some (.func (.func 18) #[] #[]) ∧ w'.cell? ⟨g, 3, none⟩ = some (.map (some mb)) ∧ w'.cell? ⟨w.heap.size + 1, 0, none⟩ = some (.int .i64 xi.id) ∧ w'.cell? ⟨w.heap.size + 1, 1, none⟩ = some (.int .i64 xi.t)) := Lib.hid (fun w' hb => by
      have k0 := HY.out.1.bx.below hb HY.out.1.bx.lt
      have k1 := HY.out.2.2.1.below hb HY.out.2.2.1.lt
      exact ⟨k0.cell 1, k0.cell 3, k1.cell 0, k1.cell 1⟩)
    have R0 : Below Y.heap.size Y Y := Below.refl _ _
    go_region_held3 (fun w' => w'.cell? ⟨g, 1, none⟩ = some (.func (.func 18) #[] #[]) ∧ w'.cell? ⟨g, 3, none⟩ = some (.map (some mb)) ∧ w'.cell? ⟨w.heap.size + 1, 0, none⟩ = some (.int .i64 xi.id) ∧ w'.cell? ⟨w.heap.size + 1, 1, none⟩ = some (.int .i64 xi.t))
      (first | with_reducible assumption | with_reducible exact HKA.out _ R0 | with_reducible exact HKA.out _ R0.drew.drew)
      (first | (go_at_call 18; (with_reducible refine (HKY.out _).mono ?_); rintro e w6 ⟨rfl, hb6⟩; have hb6' : Below Y.heap.size Y w6 := (Below.refl Y.heap.size Y).drew.drew.trans hb6; have hS6 := HKA.out _ hb6'; obtain ⟨w7, hst7, hm7, hg7, hc7, hf7⟩ := HD.out w6 hb6'; have hS7 := keep4 hc7 hS6; have H7 := Lib.hid (And.intro hb6' (And.intro hm7 hg7)); clear hb6 hb6' hm7 hg7 hc7 hf7))
    clear hS6 hS7 hst7
    have H8 := Lib.hid (show (HS w7 g mb (some ⟨q, 0, none⟩) c (zs.take m) (delF f1 xi.id) n ∧ KeepH g mb (some ⟨q, 0, none⟩) w w7) ∧ Blk w7 w.heap.size 50 #[.int .i64 0, .int .i64 0] ∧ Blk w7 (w.heap.size + 1) 50 #[.int .i64 xi.id, .int .i64 xi.t] from by
      have e := cut_end (w := w) H2.out.1 HZ.out.2.1 H2.out.2.2.2.2.1 HY.out.1 H7.out.1 H7.out.2.2 (by rw [HZ.out.2.2.1]; exact H7.out.2.1)
      rw [HZ.out.2.2.1] at e
      obtain ⟨F, m1, _⟩ := H.out.1.mp
      have hml := m1.lt
      have z1 := HY.out.2.2.2
      have kk : ∀ b, b < Y.heap.size → b ≠ mb → w7.heap[b]? = Y.heap[b]? := fun b hb hn => by
        have z6 := H7.out.1.size
        rw [H7.out.2.2.block b (by omega) (fun e => hn (Option.some.inj e)), H7.out.1.block b hb]
      exact ⟨e, (kk _ (by omega) (by omega)).trans HY.out.2.1, (kk _ (by omega) (by omega)).trans HY.out.2.2.1⟩)
    have H9 := Lib.hid (show HS w7 g mb (some ⟨q, 0, none⟩) c (zs.take m) (delF f1 xi.id) n ∧ HeapL (zs.take m) ∧ (zs.take m).length = m ∧ (∀ y, y ∈ zs.take m ↔ y ∈ xs ∧ y.id ≠ xi.id) ∧ KeepH g mb (some ⟨q, 0, none⟩) w w7 ∧ Blk w7 w.heap.size 50 #[.int .i64 0, .int .i64 0] ∧ Blk w7 (w.heap.size + 1) 50 #[.int .i64 xi.id, .int .i64 xi.t] from by
      have hz := HZF.out.1
      have hL := H.out.2.2.2
      refine ⟨H8.out.1.1, hz ▸ cut_last H.out.2.1 (by omega), by rw [List.length_take, HZ.out.2.1]; omega, fun y => ?_, H8.out.1.2, H8.out.2⟩
      have := HCM.out y
      rw [swap_self (by omega)] at this
      rw [hz]
      exact this)
    have q2 : ¬ ((m : Int) < (m : Int)) := by omega
    obtain ⟨ys, hys⟩ : ∃ ys, ys = zs.take m := ⟨_, rfl⟩
    obtain ⟨W9, hW9⟩ : ∃ W9, W9 = w7 := ⟨_, rfl⟩
    subst hW9
    have u0 := H9.out.2.2.2.2.2.1.cell 0
    have u1 := H9.out.2.2.2.2.2.1.cell 1
    have uf0 := H9.out.2.2.2.2.2.1.frozen 0
    have uf1 := H9.out.2.2.2.2.2.1.frozen 1
    have v0 := H9.out.2.2.2.2.2.2.cell 0
    have v1 := H9.out.2.2.2.2.2.2.cell 1
    clear hm0 hmc hr2q hr2g hgl
    go_wp2_with (fail)
    refine bodyPost_ret (v := .agg #[.int .i64 xi.id, .int .i64 xi.t]) (by simp [results, Try.results23, go_sem, u0, u1]) (by rfl) ?_
    exact cut_fin H.out.1 H.out.2.2.2 H9.out
  · have q1 : ((i : Int) != (m : Int)) = true := by simp; omega
    have hlt : i < m := by omega
    have HSW := Lib.hid (swap_any (H.out.1.below HV.out.1) i m H.out.2.2.1 (by have := H.out.2.2.2; omega) him)
    go_enter Try.func23, Try.ntmps23
    go_wp2_with (go_at_call 25; refine HSW.out.mono ?_; rintro e W1 ⟨⟨v1, rfl⟩, k1, k2⟩; have HW1 := Lib.hid (And.intro k1 k2); clear k1 k2)
    clear hV
    obtain ⟨zs, hzs⟩ : ∃ zs, zs = swapL xs i m := ⟨_, rfl⟩
    obtain ⟨f1, hf1⟩ : ∃ f1, f1 = putF (putF f (ath xs m).id i) (ath xs i).id m := ⟨_, rfl⟩
    obtain ⟨r2, hr2⟩ : ∃ r2, W1.heap.size = r2 := ⟨_, rfl⟩
    try rw [hr2]
    have HZ := Lib.hid (show HS W1 g mb (some ⟨q, 0, none⟩) c zs f1 n ∧ zs.length = m + 1 ∧ ath zs m = xi ∧ KeepH g mb (some ⟨q, 0, none⟩) w W1 ∧ Blk W1 w.heap.size 50 #[.int .i64 0, .int .i64 0] ∧ Blk W1 (w.heap.size + 1) 50 #[.int .i64 xi.id, .int .i64 xi.t] ∧ w.heap.size + 2 ≤ W1.heap.size from by
      subst hzs hf1
      have hq := H.out.1.it.lt q rfl
      have hgl := H.out.1.bx.lt
      obtain ⟨F, m1, _⟩ := H.out.1.mp
      have hml := m1.lt
      have hv := HV.out.2.2.2
      have zz := HW1.out.2.size
      have hL := H.out.2.2.2
      have kp : KeepH g mb (some ⟨q, 0, none⟩) w W1 := (KeepH.refl _ _ _ _).below_ HV.out.1 |>.trans HW1.out.2
      refine ⟨HW1.out.1, by rw [swap_len]; exact hL, ?_, kp, (HW1.out.2.block _ ⟨by omega, by omega, by omega, fun p hp => ?_⟩).trans HV.out.2.1, (HW1.out.2.block _ ⟨by omega, by omega, by omega, fun p hp => ?_⟩).trans HV.out.2.2.1, by omega⟩
      · rw [ath_swap (by omega) (by omega), if_pos rfl]
        exact HXI.out.1
      · injection hp with hp
        subst hp
        show w.heap.size ≠ q
        omega
      · injection hp with hp
        subst hp
        show w.heap.size + 1 ≠ q
        omega)
    have hlm : xs.length = m + 1 := H.out.2.2.2
    try rw [hlm]
    have HZF := Lib.hid (And.intro hzs hf1)
    clear hzs hf1
    clear g2 ci0 ci1 hsub hiI hmI hl1 hlm
    obtain ⟨W2, hW2⟩ : ∃ W2, W1.alloc (.cells #[.int .i64 0, .int .i64 0] 50) = W2 := ⟨_, rfl⟩
    have hb2 : Below W1.heap.size W1 W2 := by rw [← hW2]; exact (Below.refl _ _).alloc (Nat.le_refl _) _
    have H2 := Lib.hid (show HS W2 g mb (some ⟨q, 0, none⟩) c zs f1 n ∧ Blk W2 r2 50 #[.int .i64 0, .int .i64 0] ∧ Blk W2 w.heap.size 50 #[.int .i64 0, .int .i64 0] ∧ Blk W2 (w.heap.size + 1) 50 #[.int .i64 xi.id, .int .i64 xi.t] ∧ KeepH g mb (some ⟨q, 0, none⟩) w W2 ∧ W1.heap.size < W2.heap.size from by
      have hz := HZ.out
      refine ⟨hz.1.below hb2, ?_, hz.2.2.2.2.1.below hb2 hz.2.2.2.2.1.lt, hz.2.2.2.2.2.1.below hb2 hz.2.2.2.2.2.1.lt, hz.2.2.2.1.below_ hb2, by rw [← hW2]; simp⟩
      rw [← hW2, ← hr2]
      exact Blk.new _ _ _)
    rw [hW2]
    clear hW2 hb2
    obtain ⟨q', hq', hq2, _, _, cm0, cm1, fm0, fm1⟩ := H2.out.1.at_ (i := m) (by rw [HZ.out.2.1]; omega)
    injection hq' with hq'
    injection hq' with hq'
    subst hq'
    rw [HZ.out.2.2.1] at cm0 cm1
    have g2 := H2.out.1.bx.cell 2
    rw [HZ.out.2.1] at g2
    have x0 := H2.out.2.1.cell 0
    have x1 := H2.out.2.1.cell 1
    have hr2q : q ≠ r2 := by have := HZ.out.1.it.lt q rfl; omega
    have hr2g : g ≠ r2 := by have := HZ.out.1.bx.lt; omega
    have nA : ∀ a b : Nat, a ≠ b → (⟨q, a, none⟩ : Addr) ≠ ⟨q, b, none⟩ := fun a b hab h => by injection h with h1 h2; exact hab h2
    have nB : ∀ a b o : Nat, q ≠ b → (⟨q, a, none⟩ : Addr) ≠ ⟨b, o, none⟩ := fun a b o hab h => by injection h with h1 h2; exact hab h1
    have e1 : (W2.setCell ⟨q, m * 2, none⟩ (.int .i64 0)).cell? ⟨q, m * 2 + 1, none⟩ = some (.int .i64 xi.t) := by rw [World.cell?_setCell_other _ _ _ _ (nA _ _ (by omega))]; exact cm1
    obtain ⟨W3, hW3⟩ : ∃ X, (W2.setCell ⟨q, m * 2, none⟩ (.int .i64 0)).setCell ⟨q, m * 2 + 1, none⟩ (.int .i64 0) = X := ⟨_, rfl⟩
    have far3 : ∀ b o, q ≠ b → W3.cell? ⟨b, o, none⟩ = W2.cell? ⟨b, o, none⟩ := fun b o hb => by rw [← hW3, World.cell?_setCell_other _ _ _ _ (nB _ _ _ hb), World.cell?_setCell_other _ _ _ _ (nB _ _ _ hb)]
    have frz3 : W3.frozen? ⟨g, 2, none⟩ = false := by rw [← hW3, World.frozen?_setCell, World.frozen?_setCell]; exact H2.out.1.bx.frozen 2
    have d2 : W3.cell? ⟨g, 2, none⟩ = some (.slice (some ⟨q, 0, none⟩) (m + 1) c) := (far3 _ _ hqg).trans g2
    have hS0 : W2.drew.cell? ⟨g, 2, none⟩ = some (.slice (some ⟨q, 0, none⟩) (m + 1) c) ∧ W2.drew.cell? ⟨r2, 0, none⟩ = some (.int .i64 0) ∧ W2.drew.cell? ⟨r2, 1, none⟩ = some (.int .i64 0) := ⟨g2, x0, x1⟩
    have hS3 : W3.drew.cell? ⟨g, 2, none⟩ = some (.slice (some ⟨q, 0, none⟩) (m + 1) c) ∧ W3.drew.cell? ⟨r2, 0, none⟩ = some (.int .i64 0) ∧ W3.drew.cell? ⟨r2, 1, none⟩ = some (.int .i64 0) := ⟨d2, (far3 _ _ hr2q).trans x0, (far3 _ _ hr2q).trans x1⟩
    have hmc : (m : Int) ≤ (c : Int) := by
      obtain ⟨A', c', hv, h1, h2⟩ := H2.out.1.it.shape
      injection hv with _ _ hv
      have := HZ.out.2.1
      omega
    clear nA nB
    have hm0 : (0 : Int) ≤ (m : Int) := by omega
    have hmI2 : (m : Int) < ((m + 1 : Nat) : Int) := by omega
    have hmI3 : (m : Int) < (m : Int) + 1 := by omega
    go_region_held3 (fun w' => w'.cell? ⟨g, 2, none⟩ = some (.slice (some ⟨q, 0, none⟩) (m + 1) c) ∧ w'.cell? ⟨r2, 0, none⟩ = some (.int .i64 0) ∧ w'.cell? ⟨r2, 1, none⟩ = some (.int .i64 0))
      (first | with_reducible assumption | exact hS0 | exact hS3) (fail)
    go_wp2_with (fail)
    obtain ⟨Y, hY⟩ : ∃ Y, W3.setCell ⟨g, 2, none⟩ (.slice (some ⟨q, 0, none⟩) m c) = Y := ⟨_, rfl⟩
    have HY := Lib.hid (show CutY W2 Y g mb q n c m zs f1 ∧ Blk Y w.heap.size 50 #[.int .i64 0, .int .i64 0] ∧ Blk Y (w.heap.size + 1) 50 #[.int .i64 xi.id, .int .i64 xi.t] ∧ w.heap.size + 2 ≤ Y.heap.size from by
      have y : CutY W2 Y g mb q n c m zs f1 := cutY H2.out.1 HZ.out.2.1 (by rw [hW3]; exact hY)
      have hq := H.out.1.it.lt q rfl
      have hgl := H.out.1.bx.lt
      obtain ⟨F, m1, _⟩ := H.out.1.mp
      have hml := m1.lt
      have a1 := H2.out.2.2.1
      have a2 := H2.out.2.2.2.1
      have l1 := a1.lt
      have l2 := a2.lt
      have zz := y.kp.size
      refine ⟨y, (y.kp.block _ ⟨l1, by omega, by omega, fun p hp => ?_⟩).trans a1, (y.kp.block _ ⟨l2, by omega, by omega, fun p hp => ?_⟩).trans a2, by omega⟩
      · injection hp with hp
        subst hp
        show w.heap.size ≠ q
        omega
      · injection hp with hp
        subst hp
        show w.heap.size + 1 ≠ q
        omega)
    rw [hY]
    clear hY hW3 far3 frz3 d2 hS0 hS3 e1 cm0 cm1 fm0 fm1 g2 x0 x1 hmI2 hmI3
    have HD := Lib.hid (drop_step HY.out.1.mp xi.id HXI.out.2.1 0)
    have HKY := Lib.hid (fun W => show Calls Try.prog 18 #[.agg #[.int .i64 xi.id, .int .i64 xi.t]] W (fun e w' => e = .returned (.int .i64 xi.id) ∧ Below W.heap.size W w') from key35_any xi W)
    have HKA : RowKit.Hid (∀ w', Below Y.heap.size Y w' → w'.cell? ⟨g, 1, none⟩ = some (.func (.func 18) #[] #[]) ∧ w'.cell? ⟨g, 3, none⟩ = some (.map (some mb)) ∧ w'.cell? ⟨w.heap.size + 1, 0, none⟩ = some (.int .i64 xi.id) ∧ w'.cell? ⟨w.heap.size + 1, 1, none⟩ = some (.int .i64 xi.t)) := Lib.hid (fun w' hb => by
      have k0 := HY.out.1.bx.below hb HY.out.1.bx.lt
      have k1 := HY.out.2.2.1.below hb HY.out.2.2.1.lt
      exact ⟨k0.cell 1, k0.cell 3, k1.cell 0, k1.cell 1⟩)
    have R0 : Below Y.heap.size Y Y := Below.refl _ _
    go_region_held3 (fun w' => w'.cell? ⟨g, 1, none⟩ = some (.func (.func 18) #[] #[]) ∧ w'.cell? ⟨g, 3, none⟩ = some (.map (some mb)) ∧ w'.cell? ⟨w.heap.size + 1, 0, none⟩ = some (.int .i64 xi.id) ∧ w'.cell? ⟨w.heap.size + 1, 1, none⟩ = some (.int .i64 xi.t))
      (first | with_reducible assumption | with_reducible exact HKA.out _ R0 | with_reducible exact HKA.out _ R0.drew.drew)
      (first | (go_at_call 18; (with_reducible refine (HKY.out _).mono ?_); rintro e w6 ⟨rfl, hb6⟩; have hb6' : Below Y.heap.size Y w6 := (Below.refl Y.heap.size Y).drew.drew.trans hb6; have hS6 := HKA.out _ hb6'; obtain ⟨w7, hst7, hm7, hg7, hc7, hf7⟩ := HD.out w6 hb6'; have hS7 := keep4 hc7 hS6; have H7 := Lib.hid (And.intro hb6' (And.intro hm7 hg7)); clear hb6 hb6' hm7 hg7 hc7 hf7))
    clear hS6 hS7 hst7
    have H8 := Lib.hid (show (HS w7 g mb (some ⟨q, 0, none⟩) c (zs.take m) (delF f1 xi.id) n ∧ KeepH g mb (some ⟨q, 0, none⟩) w w7) ∧ Blk w7 w.heap.size 50 #[.int .i64 0, .int .i64 0] ∧ Blk w7 (w.heap.size + 1) 50 #[.int .i64 xi.id, .int .i64 xi.t] from by
      have e := cut_end (w := w) H2.out.1 HZ.out.2.1 H2.out.2.2.2.2.1 HY.out.1 H7.out.1 H7.out.2.2 (by rw [HZ.out.2.2.1]; exact H7.out.2.1)
      rw [HZ.out.2.2.1] at e
      obtain ⟨F, m1, _⟩ := H.out.1.mp
      have hml := m1.lt
      have z1 := HY.out.2.2.2
      have kk : ∀ b, b < Y.heap.size → b ≠ mb → w7.heap[b]? = Y.heap[b]? := fun b hb hn => by
        have z6 := H7.out.1.size
        rw [H7.out.2.2.block b (by omega) (fun e => hn (Option.some.inj e)), H7.out.1.block b hb]
      exact ⟨e, (kk _ (by omega) (by omega)).trans HY.out.2.1, (kk _ (by omega) (by omega)).trans HY.out.2.2.1⟩)
    have q2 : ((i : Int) < (m : Int)) := by omega
    have HDN := Lib.hid (show Calls Try.prog 26 #[.pointer (some ⟨g, 0, none⟩), .int .i64 (i : Int)] w7 (MovP g mb (some ⟨q, 0, none⟩) c n (zs.take m) w7 (fun ys => UpI ys i)) from by
      have hL := H.out.2.2.2
      refine down_any H8.out.1.1 i (by rw [List.length_take, HZ.out.2.1]; omega) ?_
      rw [HZF.out.1]
      exact cut_dn H.out.2.1 hL.symm hlt)
    have HUP := Lib.hid (fun W (k : MovP g mb (some ⟨q, 0, none⟩) c n (zs.take m) w7 (fun ys => UpI ys i) (.returned (.tuple #[])) W) => show Calls Try.prog 24 #[.pointer (some ⟨g, 0, none⟩), .int .i64 (i : Int)] W (fun e W9 => (∃ v, e = .returned v) ∧ ∃ ys f9, HS W9 g mb (some ⟨q, 0, none⟩) c ys f9 n ∧ HeapL ys ∧ ys.length = m ∧ (∀ y, y ∈ ys ↔ y ∈ xs ∧ y.id ≠ xi.id) ∧ KeepH g mb (some ⟨q, 0, none⟩) w W9 ∧ Blk W9 w.heap.size 50 #[.int .i64 0, .int .i64 0] ∧ Blk W9 (w.heap.size + 1) 50 #[.int .i64 xi.id, .int .i64 xi.t]) from by
      obtain ⟨_, ys, f', k1, k2, k3, k4, k5⟩ := k
      have hL : (zs.take m).length = m := by rw [List.length_take, HZ.out.2.1]; omega
      refine (up_any k1 i (by rw [k3, hL]; exact hlt) k2).mono ?_
      rintro e w' ⟨hv, zs', f'', j1, j2, j3, j4, i5⟩
      have j5 := k5.trans i5
      have hz := HZF.out.1
      have hq := H.out.1.it.lt q rfl
      have hgl := H.out.1.bx.lt
      obtain ⟨F, m1, _⟩ := H.out.1.mp
      have hml := m1.lt
      have a1 := H8.out.2.1
      have a2 := H8.out.2.2
      have l1 := a1.lt
      have l2 := a2.lt
      refine ⟨hv, zs', f'', j1, j2, by rw [j3, k3, hL], fun y => ?_, H8.out.1.2.trans j5, (j5.block _ ⟨l1, by omega, by omega, fun p hp => ?_⟩).trans a1, (j5.block _ ⟨l2, by omega, by omega, fun p hp => ?_⟩).trans a2⟩
      · rw [j4 y, k4 y, hz]
        exact HCM.out y
      · injection hp with hp
        subst hp
        show w.heap.size ≠ q
        omega
      · injection hp with hp
        subst hp
        show w.heap.size + 1 ≠ q
        omega)
    clear hm0 hmc hr2q hr2g hgl
    go_wp2_with (first
      | (go_at_call 26; refine HDN.out.mono ?_; rintro e w8 ⟨⟨v8, rfl⟩, k8⟩; have H80 := Lib.hid (show MovP g mb (some ⟨q, 0, none⟩) c n (zs.take m) w7 (fun ys => UpI ys i) (.returned (.tuple #[])) w8 from ⟨⟨_, rfl⟩, k8⟩); clear k8)
      | (go_at_call 24; refine (HUP.out _ H80.out).mono ?_; rintro e W9 ⟨⟨v9, rfl⟩, ys, f9, k9⟩; have H9 := Lib.hid k9; have u0 := k9.2.2.2.2.2.1.cell 0; have u1 := k9.2.2.2.2.2.1.cell 1; have uf0 := k9.2.2.2.2.2.1.frozen 0; have uf1 := k9.2.2.2.2.2.1.frozen 1; have v0 := k9.2.2.2.2.2.2.cell 0; have v1 := k9.2.2.2.2.2.2.cell 1; clear k9))
    refine bodyPost_ret (v := .agg #[.int .i64 xi.id, .int .i64 xi.t]) (by simp [results, Try.results23, go_sem, u0, u1]) (by rfl) ?_
    exact cut_fin H.out.1 H.out.2.2.2 H9.out
end Go.Proofs.Ytkdijafnakpfhaa
