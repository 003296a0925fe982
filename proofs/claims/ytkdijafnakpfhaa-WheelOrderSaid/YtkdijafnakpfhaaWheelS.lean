/- The wheel's heap in memory; the walks of its order, its key and its swap. Conditions: none. -/
import Derived.Test.YtkdijafnakpfhaaWheelM
import Derived.Test.YtkdijafnakpfhaaMapT
import Derived.Test.YtkdijafnakpfhaaFlatV
import Derived.Test.YtkdijafnakpfhaaChecked
import Derived.Deep.RegionHeld3
import Derived.Deep.DeepMust
namespace Go.Proofs.Ytkdijafnakpfhaa
open Go.RowKit Go.Lib

def Th.vs (x : Th) : List Value := [.int .i64 x.id, .int .i64 x.t]
def Th.val (x : Th) : Value := .agg #[.int .i64 x.id, .int .i64 x.t]
theorem Th.two (x : Th) : x.vs.length = 2 := rfl
def Th.ok (x : Th) : Prop := (-9223372036854775808 ≤ x.id ∧ x.id ≤ 9223372036854775807) ∧ (-9223372036854775808 ≤ x.t ∧ x.t ≤ 9223372036854775807)
theorem keyed_int35 : Maps.Keyed Try.prog 3 := Maps.int_keyed Try.underlying3
theorem wf_of_i64 {x : Int} (h : -9223372036854775808 ≤ x ∧ x ≤ 9223372036854775807) : (Lit.int .i64 x).wf = true := by
  simpa [Lit.wf, IntKind.min, IntKind.max, IntKind.signed, IntKind.bits] using h
theorem key_of_int {x : Int} (h : -9223372036854775808 ≤ x ∧ x ≤ 9223372036854775807) : keyOf Try.prog 3 (.int .i64 x) = some (.int .i64 x) := Maps.keyOf_int_mk Try.underlying3 (wf_of_i64 h)

set_option maxRecDepth 100000 in
theorem before_any (a b : Th) (w : World) : Calls Try.prog 17 #[a.val, b.val] w fun e w' => e = .returned (.bool (a.ltB b)) ∧ Below w.heap.size w w' := by
  obtain ⟨i, t⟩ := a
  obtain ⟨j, u⟩ := b
  have hb : Below w.heap.size w ((w.alloc (.cells #[.int .i64 i, .int .i64 t] 50)).alloc (.cells #[.int .i64 j, .int .i64 u] 50)) := ((Below.refl _ _).alloc (Nat.le_refl _) _).alloc (by simp) _
  have HB := Lib.hid hb
  clear hb
  unfold Th.ltB
  dsimp only [Th.val]
  by_cases h : t = u
  · subst h
    rw [if_pos rfl]
    go_enter Try.func17, Try.ntmps17
    go_wp2_with (fail)
    go_ret
    exact ⟨rfl, HB.out⟩
  · have h1 : (t == u) = false := by simp [h]
    have h2 : (t != u) = true := by simp [h]
    rw [if_neg h]
    clear h
    go_enter Try.func17, Try.ntmps17
    go_wp2_with (fail)
    go_ret
    exact ⟨rfl, HB.out⟩
set_option maxRecDepth 100000 in
theorem key35_any (a : Th) (w : World) : Calls Try.prog 18 #[a.val] w fun e w' => e = .returned (.int .i64 a.id) ∧ Below w.heap.size w w' := by
  obtain ⟨i, t⟩ := a
  dsimp only [Th.val]
  go_enter Try.func18, Try.ntmps18
  go_wp2_with (fail)
  go_ret
  exact ⟨rfl, (Below.refl _ _).alloc (Nat.le_refl _) _⟩

/-- The heap at block g: its things xs at block a (or nowhere), its places f at block mb. -/
structure HS (w : World) (g mb : Nat) (A : Option Addr) (c : Nat) (xs : List Th) (f : Int → Option Nat) (n : Nat) : Prop where
  bx : Blk w g 57 #[.func (.func 17) #[] #[], .func (.func 18) #[] #[], .slice A xs.length c, .map (some mb)]
  it : Sl w 2 (.slice A xs.length c) xs.length (flatV Th.vs xs)
  mp : ∃ F, MapV Try.prog 3 w mb n F ∧ ∀ k, F (.int .i64 k) = (f k).map fun i => .int .i64 (i : Int)
  ne : g ≠ mb ∧ ∀ q, (Value.slice A xs.length c).ownBlock = some q → q ≠ g ∧ q ≠ mb
  pl : PlOk xs f
  ok : ∀ x ∈ xs, x.ok
  nb : n ≤ 1000 ∧ xs.length ≤ 1000
/-- Nothing but the heap has turned. -/
def KeepH (g mb : Nat) (A : Option Addr) (w w' : World) : Prop := KeepK (fun b => b < w.heap.size ∧ b ≠ g ∧ b ≠ mb ∧ ∀ q, A = some q → b ≠ q.block) w w'

theorem HS.at_ {w : World} {g mb n c : Nat} {A : Option Addr} {xs : List Th} {f : Int → Option Nat} (h : HS w g mb A c xs f n) {i : Nat} (hi : i < xs.length) :
    ∃ q, A = some ⟨q, 0, none⟩ ∧ q < w.heap.size ∧ q ≠ g ∧ q ≠ mb ∧ w.cell? ⟨q, i * 2, none⟩ = some (.int .i64 (ath xs i).id) ∧ w.cell? ⟨q, i * 2 + 1, none⟩ = some (.int .i64 (ath xs i).t) ∧ w.frozen? ⟨q, i * 2, none⟩ = false ∧ w.frozen? ⟨q, i * 2 + 1, none⟩ = false := by
  obtain ⟨q, cap, hv, hq, _, _, hc⟩ := h.it.form (by omega)
  injection hv with hA _ _
  subst hA
  have hn := h.ne.2 q rfl
  exact ⟨q, rfl, hq, hn.1, hn.2, hc _ _ (by simpa using flatV_at Th.two xs i _ 0 _ (get_ath hi) rfl), hc _ _ (flatV_at Th.two xs i _ 1 _ (get_ath hi) rfl), h.it.free rfl (by omega), h.it.free rfl (by omega)⟩

def RelF (F : Lit → Option Value) (f : Int → Option Nat) : Prop := ∀ k, F (.int .i64 k) = (f k).map fun i => .int .i64 (i : Int)
theorem relF_put {F : Lit → Option Value} {f : Int → Option Nat} (h : RelF F f) (k : Int) (p : Nat) : RelF (fun x => if x.sameKey (.int .i64 k) then some (.int .i64 (p : Int)) else F x) (putF f k p) := by
  intro x
  unfold putF
  dsimp only
  by_cases hx : x = k
  · subst hx
    rw [if_pos (by simp [Lit.sameKey]), if_pos rfl]
    rfl
  · rw [if_neg (by simp [Lit.sameKey]; exact hx), if_neg hx]
    exact h x
theorem relF_del {F : Lit → Option Value} {f : Int → Option Nat} (h : RelF F f) (k : Int) : RelF (fun x => if x.sameKey (.int .i64 k) then none else F x) (delF f k) := by
  intro x
  unfold delF
  dsimp only
  by_cases hx : x = k
  · subst hx
    rw [if_pos (by simp [Lit.sameKey]), if_pos rfl]
    rfl
  · rw [if_neg (by simp [Lit.sameKey]; exact hx), if_neg hx]
    exact h x
theorem map_step {W : World} {mb n : Nat} {f : Int → Option Nat} (hm : ∃ F, MapV Try.prog 3 W mb n F ∧ RelF F f) (k : Int) (hk : -9223372036854775808 ≤ k ∧ k ≤ 9223372036854775807) (hf : (f k).isSome = true) (hn : n ≤ 1000) (p : Nat) :
    ∀ w6, Below W.heap.size W w6 → ∃ w7, (Instr.mapUpdate 52 (.map (some mb)) (.int .i64 k) (.int .i64 (p : Int))).run Try.prog w6 = .ok () w7 ∧ (∃ F, MapV Try.prog 3 w7 mb n F ∧ RelF F (putF f k p)) ∧ w6.grownBy w7 (some mb) ∧ (∀ a, w7.cell? a = w6.cell? a) ∧ ∀ a, w7.frozen? a = w6.frozen? a := by
  obtain ⟨F, h1, h2⟩ := hm
  intro w6 hb
  have h6 := h1.below hb h1.lt
  obtain ⟨w7, hr, h7, hg, hc, hfz⟩ := h6.store_there keyed_int35 Try.underlying52 (by unfold maxLen; omega) (key_of_int hk) (key_int_isKey .i64 k) (by rw [h2 k]; simpa using hf) (.int .i64 (p : Int))
  exact ⟨w7, hr, ⟨_, h7, relF_put h2 k p⟩, hg, hc, hfz⟩
theorem map_more {W : World} {mb n : Nat} {f : Int → Option Nat} (hm : ∃ F, MapV Try.prog 3 W mb n F ∧ RelF F f) (k : Int) (hk : -9223372036854775808 ≤ k ∧ k ≤ 9223372036854775807) (hn : n ≤ 1000) (p : Nat) :
    ∀ w6, Below W.heap.size W w6 → ∃ w7, (Instr.mapUpdate 52 (.map (some mb)) (.int .i64 k) (.int .i64 (p : Int))).run Try.prog w6 = .ok () w7 ∧ (∃ F, MapV Try.prog 3 w7 mb (n + 1) F ∧ RelF F (putF f k p)) ∧ w6.grownBy w7 (some mb) ∧ (∀ a, w7.cell? a = w6.cell? a) ∧ ∀ a, w7.frozen? a = w6.frozen? a := by
  obtain ⟨F, h1, h2⟩ := hm
  intro w6 hb
  have h6 := h1.below hb h1.lt
  obtain ⟨w7, hr, h7, hg, hc, hfz⟩ := h6.store keyed_int35 Try.underlying52 (by unfold maxLen; omega) (key_of_int hk) (key_int_isKey .i64 k) (.int .i64 (p : Int))
  exact ⟨w7, hr, ⟨_, h7, relF_put h2 k p⟩, hg, hc, hfz⟩

theorem flatV_set2 : ∀ (Z : List Th) (i : Nat) (o : Th), flatV Th.vs (Z.set i o) = ((flatV Th.vs Z).set (i * 2) (.int .i64 o.id)).set (i * 2 + 1) (.int .i64 o.t)
  | [], i, o => by simp [flatV]
  | z :: Z, 0, o => by simp [flatV, Th.vs]
  | z :: Z, i + 1, o => by
    have ih := flatV_set2 Z i o
    rw [List.set_cons_succ, flatV_cons, flatV_cons, ih, show (i + 1) * 2 = i * 2 + 1 + 1 by omega]
    simp [Th.vs]
theorem Sl.setTh {w : World} {q n c : Nat} {Z : List Th} (h : Sl w 2 (.slice (some ⟨q, 0, none⟩) n c) n (flatV Th.vs Z)) (i : Nat) (hi : i < n) (o : Th) :
    Sl ((w.setCell ⟨q, i * 2, none⟩ (.int .i64 o.id)).setCell ⟨q, i * 2 + 1, none⟩ (.int .i64 o.t)) 2 (.slice (some ⟨q, 0, none⟩) n c) n (flatV Th.vs (Z.set i o)) := by
  rw [flatV_set2]
  exact (h.set_ rfl (i * 2) _ (by omega)).set_ rfl (i * 2 + 1) _ (by omega)

structure SwapY (w Y : World) (g mb q n c : Nat) (xs : List Th) (f : Int → Option Nat) (i j : Nat) (xi xj : Th) : Prop where
  bx : Blk Y g 57 #[.func (.func 17) #[] #[], .func (.func 18) #[] #[], .slice (some ⟨q, 0, none⟩) xs.length c, .map (some mb)]
  it : Sl Y 2 (.slice (some ⟨q, 0, none⟩) xs.length c) xs.length (flatV Th.vs (swapL xs i j))
  i0 : Y.cell? ⟨q, i * 2, none⟩ = some (.int .i64 xj.id)
  i1 : Y.cell? ⟨q, i * 2 + 1, none⟩ = some (.int .i64 xj.t)
  j0 : Y.cell? ⟨q, j * 2, none⟩ = some (.int .i64 xi.id)
  j1 : Y.cell? ⟨q, j * 2 + 1, none⟩ = some (.int .i64 xi.t)
  ql : q < Y.heap.size
  mp : ∃ F, MapV Try.prog 3 Y mb n F ∧ RelF F f
  kp : KeepH g mb (some ⟨q, 0, none⟩) w Y
theorem swapY {w X1 X2 Y : World} {g mb q n c : Nat} {xs : List Th} {f : Int → Option Nat} {i j : Nat} {xi xj : Th} (h : HS w g mb (some ⟨q, 0, none⟩) c xs f n) (hi : i < xs.length) (hj : j < xs.length) (hij : i ≠ j) (hxi : ath xs i = xi) (hxj : ath xs j = xj)
    (h1 : (w.setCell ⟨q, i * 2, none⟩ (.int .i64 xj.id)).setCell ⟨q, i * 2 + 1, none⟩ (.int .i64 xj.t) = X1) (h2 : (X1.setCell ⟨q, j * 2, none⟩ (.int .i64 xi.id)).setCell ⟨q, j * 2 + 1, none⟩ (.int .i64 xi.t) = X2) (hY : X2.drew = Y) :
    SwapY w Y g mb q n c xs f i j xi xj := by
  have hne := h.ne.2 q rfl
  have s1 := h.it.setTh i hi xj
  rw [h1] at s1
  have s2 := s1.setTh j hj xi
  rw [h2] at s2
  have e : (xs.set i xj).set j xi = swapL xs i j := by unfold swapL; rw [hxi, hxj]
  rw [e] at s2
  have S := ath_swap hi hj
  have hL : (swapL xs i j).length = xs.length := swap_len _ _ _
  have ei : (swapL xs i j)[i]? = some xj := by rw [get_ath (by rw [hL]; exact hi), S, if_neg hij, if_pos rfl, hxj]
  have ej : (swapL xs i j)[j]? = some xi := by rw [get_ath (by rw [hL]; exact hj), S, if_pos rfl, hxi]
  have b2 : Blk X2 g 57 #[.func (.func 17) #[] #[], .func (.func 18) #[] #[], .slice (some ⟨q, 0, none⟩) xs.length c, .map (some mb)] := by
    have n' : ∀ o : Nat, g ≠ (⟨q, o, none⟩ : Addr).block := fun o => hne.1.symm
    rw [← h2, ← h1]
    exact (((h.bx.far (n' _) _).far (n' _) _).far (n' _) _).far (n' _) _
  have m2 : ∃ F, MapV Try.prog 3 X2 mb n F ∧ RelF F f := by
    obtain ⟨F, k1, k2⟩ := h.mp
    have n' : ∀ o : Nat, mb ≠ (⟨q, o, none⟩ : Addr).block := fun o => hne.2.symm
    refine ⟨F, ?_, k2⟩
    rw [← h2, ← h1]
    exact (((k1.far (n' _) _).far (n' _) _).far (n' _) _).far (n' _) _
  have k2 : KeepH g mb (some ⟨q, 0, none⟩) w X2 := by
    have n' : ∀ o b, (b < w.heap.size ∧ b ≠ g ∧ b ≠ mb ∧ ∀ p : Addr, some (⟨q, 0, none⟩ : Addr) = some p → b ≠ p.block) → b ≠ (⟨q, o, none⟩ : Addr).block := fun o b hb => hb.2.2.2 ⟨q, 0, none⟩ rfl
    rw [← h2, ← h1]
    unfold KeepH
    exact ((((KeepK.refl _ w).setCell (n' _) _).setCell (n' _) _).setCell (n' _) _).setCell (n' _) _
  subst hY
  exact ⟨b2, s2, by simpa using s2.cell rfl (by simpa using flatV_at Th.two _ i _ 0 _ ei rfl), by simpa using s2.cell rfl (flatV_at Th.two _ i _ 1 _ ei rfl), by simpa using s2.cell rfl (by simpa using flatV_at Th.two _ j _ 0 _ ej rfl), by simpa using s2.cell rfl (flatV_at Th.two _ j _ 1 _ ej rfl), s2.lt q rfl, m2, k2.drew⟩
theorem keep5 {w6 w7 : World} {g q a b : Nat} {x1 x2 x3 y0 y1 : Option Value} (hc : ∀ p, w7.cell? p = w6.cell? p) (H : w6.cell? ⟨g, 1, none⟩ = x1 ∧ w6.cell? ⟨g, 2, none⟩ = x2 ∧ w6.cell? ⟨g, 3, none⟩ = x3 ∧ w6.cell? ⟨q, a, none⟩ = y0 ∧ w6.cell? ⟨q, b, none⟩ = y1) :
    w7.cell? ⟨g, 1, none⟩ = x1 ∧ w7.cell? ⟨g, 2, none⟩ = x2 ∧ w7.cell? ⟨g, 3, none⟩ = x3 ∧ w7.cell? ⟨q, a, none⟩ = y0 ∧ w7.cell? ⟨q, b, none⟩ = y1 := by
  rw [hc, hc, hc, hc, hc]; exact H
/-- The heap's own things stay where only the map has turned. -/
theorem swap_end {w Y w6 w7 w8 w9 : World} {g mb q n c : Nat} {xs : List Th} {f : Int → Option Nat} {i j : Nat} {xi xj : Th} (h : HS w g mb (some ⟨q, 0, none⟩) c xs f n) (hi : i < xs.length) (hj : j < xs.length) (hij : i ≠ j) (hxi : ath xs i = xi) (hxj : ath xs j = xj)
    (hY : SwapY w Y g mb q n c xs f i j xi xj) (b6 : Below Y.heap.size Y w6) (g7 : w6.grownBy w7 (some mb)) (b8 : Below w7.heap.size w7 w8) (g9 : w8.grownBy w9 (some mb)) (hm : ∃ F, MapV Try.prog 3 w9 mb n F ∧ RelF F (putF (putF f xj.id i) xi.id j)) :
    HS w9 g mb (some ⟨q, 0, none⟩) c (swapL xs i j) (putF (putF f xj.id i) xi.id j) n ∧ KeepH g mb (some ⟨q, 0, none⟩) w w9 := by
  have hne := h.ne
  have hq := hne.2 q rfl
  have hL : (swapL xs i j).length = xs.length := swap_len _ _ _
  have kk : ∀ b, b < Y.heap.size → b ≠ mb → w9.heap[b]? = Y.heap[b]? := fun b hb hn => by
    have z6 := b6.size
    have z7 := g7.size
    have z8 := b8.size
    rw [g9.block b (by omega) (fun e => hn (Option.some.inj e)), b8.block b (by omega), g7.block b (by omega) (fun e => hn (Option.some.inj e)), b6.block b hb]
  have zz : Y.heap.size ≤ w9.heap.size := Nat.le_trans b6.size (Nat.le_trans g7.size (Nat.le_trans b8.size g9.size))
  refine ⟨⟨?_, ?_, hm, ⟨hne.1, fun p hp => ?_⟩, ?_, fun x hx => h.ok x ((swap_mem hi hj x).1 hx), ⟨h.nb.1, by rw [hL]; exact h.nb.2⟩⟩, ?_⟩
  · rw [hL]
    exact (kk g hY.bx.lt hne.1).trans hY.bx
  · rw [hL]
    refine hY.it.keep zz fun p hp => ?_
    have : q = p := by simpa [Value.ownBlock] using hp
    subst this
    exact kk q hY.ql hq.2
  · rw [hL] at hp
    exact hne.2 p hp
  · have := h.pl.swap hi hj hij
    rw [hxi, hxj] at this
    exact this
  · refine hY.kp.trans ⟨?_, ?_, ?_, zz, fun b hb => ?_⟩
    · rw [g9.os, b8.os, g7.os, b6.os]
    · rw [g9.tape, b8.tape, g7.tape, b6.tape]
    · rw [g9.output, b8.output, g7.output, b6.output]
    · exact kk b (Nat.lt_of_lt_of_le hb.1 hY.kp.size) hb.2.2.1

theorem swap_ok {w : World} {g mb q n c : Nat} {xs : List Th} {f : Int → Option Nat} {i j : Nat} {xi xj : Th} (h : HS w g mb (some ⟨q, 0, none⟩) c xs f n) (hi : i < xs.length) (hj : j < xs.length) (_ : i ≠ j) (hxi : ath xs i = xi) (hxj : ath xs j = xj) :
    xi.ok ∧ xj.ok ∧ (f xj.id).isSome = true ∧ (putF f xj.id i xi.id).isSome = true := by
  subst hxi hxj
  refine ⟨h.ok _ (ath_mem hi), h.ok _ (ath_mem hj), by rw [h.pl.1 j hj]; rfl, ?_⟩
  unfold putF
  split
  · rfl
  · rw [h.pl.1 i hi]; rfl

set_option maxRecDepth 100000 in
set_option maxHeartbeats 16000000 in
theorem swap_any {w : World} {g mb n c : Nat} {A : Option Addr} {xs : List Th} {f : Int → Option Nat} (h : HS w g mb A c xs f n) (i j : Nat) (hi : i < xs.length) (hj : j < xs.length) (hij : i ≠ j) :
    Calls Try.prog 25 #[.pointer (some ⟨g, 0, none⟩), .int .i64 (i : Int), .int .i64 (j : Int)] w (fun e w' => (∃ v, e = .returned v) ∧ HS w' g mb A c (swapL xs i j) (putF (putF f (ath xs j).id i) (ath xs i).id j) n ∧ KeepH g mb A w w') := by
  obtain ⟨q, rfl, hq, hqg, hqm, ci0, ci1, fi0, fi1⟩ := h.at_ hi
  obtain ⟨q', hq', _, _, _, cj0, cj1, fj0, fj1⟩ := h.at_ hj
  injection hq' with hq'
  injection hq' with hq'
  subst hq'
  have H := Lib.hid h
  have g2 := h.bx.cell 2
  have hiI : (i : Int) < (xs.length : Int) := by omega
  have hjI : (j : Int) < (xs.length : Int) := by omega
  have hgl := h.bx.lt
  clear h
  obtain ⟨xi, hxi⟩ : ∃ x, ath xs i = x := ⟨_, rfl⟩
  obtain ⟨xj, hxj⟩ : ∃ x, ath xs j = x := ⟨_, rfl⟩
  rw [hxi] at ci0 ci1
  rw [hxj] at cj0 cj1
  have HX := Lib.hid (And.intro hxi hxj)
  have HIJ := Lib.hid (And.intro hi (And.intro hj hij))
  rw [hxi, hxj]
  clear hxi hxj hi hj
  go_enter Try.func25, Try.ntmps25
  go_wp2_with (fail)
  have nA : ∀ a b : Nat, a ≠ b → (⟨q, a, none⟩ : Addr) ≠ ⟨q, b, none⟩ := fun a b hab h => by injection h with h1 h2; exact hab h2
  have nG : ∀ a : Nat, (⟨q, a, none⟩ : Addr) ≠ ⟨g, 2, none⟩ := fun a h => by injection h with h1 h2; exact hqg h1
  have e1 : (w.setCell ⟨q, i * 2, none⟩ (.int .i64 xj.id)).cell? ⟨q, i * 2 + 1, none⟩ = some (.int .i64 xi.t) := by rw [World.cell?_setCell_other _ _ _ _ (nA _ _ (by omega))]; exact ci1
  obtain ⟨X1, hX1⟩ : ∃ X, (w.setCell ⟨q, i * 2, none⟩ (.int .i64 xj.id)).setCell ⟨q, i * 2 + 1, none⟩ (.int .i64 xj.t) = X := ⟨_, rfl⟩
  have d0 : X1.cell? ⟨q, j * 2, none⟩ = some (.int .i64 xj.id) := by rw [← hX1, World.cell?_setCell_other _ _ _ _ (nA _ _ (by omega)), World.cell?_setCell_other _ _ _ _ (nA _ _ (by omega))]; exact cj0
  have d1 : X1.cell? ⟨q, j * 2 + 1, none⟩ = some (.int .i64 xj.t) := by rw [← hX1, World.cell?_setCell_other _ _ _ _ (nA _ _ (by omega)), World.cell?_setCell_other _ _ _ _ (nA _ _ (by omega))]; exact cj1
  have d2 : X1.cell? ⟨g, 2, none⟩ = some (.slice (some ⟨q, 0, none⟩) xs.length c) := by rw [← hX1, World.cell?_setCell_other _ _ _ _ (nG _), World.cell?_setCell_other _ _ _ _ (nG _)]; exact g2
  have r0 : X1.frozen? ⟨q, j * 2, none⟩ = false := by rw [← hX1, World.frozen?_setCell, World.frozen?_setCell]; exact fj0
  have r1 : X1.frozen? ⟨q, j * 2 + 1, none⟩ = false := by rw [← hX1, World.frozen?_setCell, World.frozen?_setCell]; exact fj1
  have e2 : (X1.setCell ⟨q, j * 2, none⟩ (.int .i64 xi.id)).cell? ⟨q, j * 2 + 1, none⟩ = some (.int .i64 xj.t) := by rw [World.cell?_setCell_other _ _ _ _ (nA _ _ (by omega))]; exact d1
  obtain ⟨X2, hX2⟩ : ∃ X, (X1.setCell ⟨q, j * 2, none⟩ (.int .i64 xi.id)).setCell ⟨q, j * 2 + 1, none⟩ (.int .i64 xi.t) = X := ⟨_, rfl⟩
  have d3 : X2.cell? ⟨g, 2, none⟩ = some (.slice (some ⟨q, 0, none⟩) xs.length c) := by rw [← hX2, World.cell?_setCell_other _ _ _ _ (nG _), World.cell?_setCell_other _ _ _ _ (nG _)]; exact d2
  have HXX := Lib.hid (And.intro hX1 hX2)
  clear nA nG
  have hS1 : X1.drew.cell? ⟨g, 2, none⟩ = some (.slice (some ⟨q, 0, none⟩) xs.length c) := d2
  have hS2 : X2.drew.cell? ⟨g, 2, none⟩ = some (.slice (some ⟨q, 0, none⟩) xs.length c) := d3
  have hS0 : w.drew.cell? ⟨g, 2, none⟩ = some (.slice (some ⟨q, 0, none⟩) xs.length c) := g2
  refine wp_region_held_drew (S := fun w' => w'.cell? ⟨g, 2, none⟩ = some (.slice (some ⟨q, 0, none⟩) xs.length c)) (by kernel_rfl) hS0 (fun _ => ?_)
  try simp only [List.getElem_toArray, List.getElem_cons_zero, List.getElem_cons_succ, Act.put, List.setIfInBounds_toArray, List.set_cons_zero, List.set_cons_succ]
  refine wpAnyH_take (i := 0) (v := .pointer (some ⟨g, 0, none⟩)) rfl (by kernel_rfl) (by kernel_rfl) (by kernel_rfl) (fun _ _ _ h => h) (Or.inl ⟨by rfl, ?_⟩) hS0 ?_
  · intro w hSw; (try dsimp only at hSw); go_simp
  try simp only [List.getElem_toArray, List.getElem_cons_zero, Act.put, List.setIfInBounds_toArray, List.set_cons_zero, List.set_cons_succ]
  refine wpAnyH_take (i := 1) (v := .pointer (some ⟨g, 0, none⟩)) rfl (by kernel_rfl) (by kernel_rfl) (by kernel_rfl) (fun _ _ _ h => h) (Or.inl ⟨by rfl, ?_⟩) hS0 ?_
  · intro w hSw; (try dsimp only at hSw); go_simp
  try simp only [List.getElem_toArray, List.getElem_cons_zero, List.getElem_cons_succ, Act.put, List.setIfInBounds_toArray, List.set_cons_zero, List.set_cons_succ]
  refine wpAnyH_take (i := 2) (v := .pointer (some ⟨g, 2, none⟩)) rfl (by kernel_rfl) (by kernel_rfl) (by kernel_rfl) (fun _ _ _ h => h) (Or.inl ⟨by rfl, ?_⟩) hS0 ?_
  · intro w hSw; (try dsimp only at hSw); go_simp
  try simp only [List.getElem_toArray, List.getElem_cons_zero, List.getElem_cons_succ, Act.put, List.setIfInBounds_toArray, List.set_cons_zero, List.set_cons_succ]
  refine wpAnyH_take (i := 3) (v := .slice (some ⟨q, 0, none⟩) xs.length c) rfl (by kernel_rfl) (by kernel_rfl) (by kernel_rfl) (fun _ _ _ h => h) (Or.inl ⟨by rfl, ?_⟩) hS0 ?_
  · intro w hSw; (try dsimp only at hSw); go_simp
  try simp only [List.getElem_toArray, List.getElem_cons_zero, List.getElem_cons_succ, Act.put, List.setIfInBounds_toArray, List.set_cons_zero, List.set_cons_succ]
  refine wpAnyH_take (i := 4) (v := .int .i64 (i : Int)) rfl (by kernel_rfl) (by kernel_rfl) (by kernel_rfl) (fun _ _ _ h => h) (Or.inl ⟨by rfl, ?_⟩) hS0 ?_
  · intro w hSw; (try dsimp only at hSw); go_simp
  try simp only [List.getElem_toArray, List.getElem_cons_zero, List.getElem_cons_succ, Act.put, List.setIfInBounds_toArray, List.set_cons_zero, List.set_cons_succ]
  refine wpAnyH_take (i := 5) (v := .pointer (some ⟨g, 0, none⟩)) rfl (by kernel_rfl) (by kernel_rfl) (by kernel_rfl) (fun _ _ _ h => h) (Or.inl ⟨by rfl, ?_⟩) hS0 ?_
  · intro w hSw; (try dsimp only at hSw); go_simp
  try simp only [List.getElem_toArray, List.getElem_cons_zero, List.getElem_cons_succ, Act.put, List.setIfInBounds_toArray, List.set_cons_zero, List.set_cons_succ]
  refine wpAnyH_take (i := 6) (v := .pointer (some ⟨g, 0, none⟩)) rfl (by kernel_rfl) (by kernel_rfl) (by kernel_rfl) (fun _ _ _ h => h) (Or.inl ⟨by rfl, ?_⟩) hS0 ?_
  · intro w hSw; (try dsimp only at hSw); go_simp
  try simp only [List.getElem_toArray, List.getElem_cons_zero, List.getElem_cons_succ, Act.put, List.setIfInBounds_toArray, List.set_cons_zero, List.set_cons_succ]
  refine wpAnyH_take (i := 7) (v := .pointer (some ⟨g, 2, none⟩)) rfl (by kernel_rfl) (by kernel_rfl) (by kernel_rfl) (fun _ _ _ h => h) (Or.inl ⟨by rfl, ?_⟩) hS0 ?_
  · intro w hSw; (try dsimp only at hSw); go_simp
  try simp only [List.getElem_toArray, List.getElem_cons_zero, List.getElem_cons_succ, Act.put, List.setIfInBounds_toArray, List.set_cons_zero, List.set_cons_succ]
  refine wpAnyH_take (i := 8) (v := .slice (some ⟨q, 0, none⟩) xs.length c) rfl (by kernel_rfl) (by kernel_rfl) (by kernel_rfl) (fun _ _ _ h => h) (Or.inl ⟨by rfl, ?_⟩) hS0 ?_
  · intro w hSw; (try dsimp only at hSw); go_simp
  try simp only [List.getElem_toArray, List.getElem_cons_zero, List.getElem_cons_succ, Act.put, List.setIfInBounds_toArray, List.set_cons_zero, List.set_cons_succ]
  refine wpAnyH_take (i := 9) (v := .int .i64 (j : Int)) rfl (by kernel_rfl) (by kernel_rfl) (by kernel_rfl) (fun _ _ _ h => h) (Or.inl ⟨by rfl, ?_⟩) hS0 ?_
  · intro w hSw; (try dsimp only at hSw); go_simp
  try simp only [List.getElem_toArray, List.getElem_cons_zero, List.getElem_cons_succ, Act.put, List.setIfInBounds_toArray, List.set_cons_zero, List.set_cons_succ]
  refine wpAnyH_take (i := 10) (v := .pointer (some ⟨g, 0, none⟩)) rfl (by kernel_rfl) (by kernel_rfl) (by kernel_rfl) (fun _ _ _ h => h) (Or.inl ⟨by rfl, ?_⟩) hS0 ?_
  · intro w hSw; (try dsimp only at hSw); go_simp
  try simp only [List.getElem_toArray, List.getElem_cons_zero, List.getElem_cons_succ, Act.put, List.setIfInBounds_toArray, List.set_cons_zero, List.set_cons_succ]
  refine wpAnyH_take (i := 11) (v := .pointer (some ⟨g, 0, none⟩)) rfl (by kernel_rfl) (by kernel_rfl) (by kernel_rfl) (fun _ _ _ h => h) (Or.inl ⟨by rfl, ?_⟩) hS0 ?_
  · intro w hSw; (try dsimp only at hSw); go_simp
  try simp only [List.getElem_toArray, List.getElem_cons_zero, List.getElem_cons_succ, Act.put, List.setIfInBounds_toArray, List.set_cons_zero, List.set_cons_succ]
  refine wpAnyH_take (i := 12) (v := .pointer (some ⟨g, 2, none⟩)) rfl (by kernel_rfl) (by kernel_rfl) (by kernel_rfl) (fun _ _ _ h => h) (Or.inl ⟨by rfl, ?_⟩) hS0 ?_
  · intro w hSw; (try dsimp only at hSw); go_simp
  try simp only [List.getElem_toArray, List.getElem_cons_zero, List.getElem_cons_succ, Act.put, List.setIfInBounds_toArray, List.set_cons_zero, List.set_cons_succ]
  refine wpAnyH_take (i := 13) (v := .slice (some ⟨q, 0, none⟩) xs.length c) rfl (by kernel_rfl) (by kernel_rfl) (by kernel_rfl) (fun _ _ _ h => h) (Or.inl ⟨by rfl, ?_⟩) hS0 ?_
  · intro w hSw; (try dsimp only at hSw); go_simp
  try simp only [List.getElem_toArray, List.getElem_cons_zero, List.getElem_cons_succ, Act.put, List.setIfInBounds_toArray, List.set_cons_zero, List.set_cons_succ]
  refine wpAnyH_take (i := 14) (v := .int .i64 (j : Int)) rfl (by kernel_rfl) (by kernel_rfl) (by kernel_rfl) (fun _ _ _ h => h) (Or.inl ⟨by rfl, ?_⟩) hS0 ?_
  · intro w hSw; (try dsimp only at hSw); go_simp
  try simp only [List.getElem_toArray, List.getElem_cons_zero, List.getElem_cons_succ, Act.put, List.setIfInBounds_toArray, List.set_cons_zero, List.set_cons_succ]
  refine wpAnyH_take (i := 15) (v := .pointer (some ⟨q, j * 2, none⟩)) rfl (by kernel_rfl) (by kernel_rfl) (by kernel_rfl) (fun _ _ _ h => h) (Or.inl ⟨by rfl, ?_⟩) hS0 ?_
  · intro w hSw; (try dsimp only at hSw); go_simp
  try simp only [List.getElem_toArray, List.getElem_cons_zero, List.getElem_cons_succ, Act.put, List.setIfInBounds_toArray, List.set_cons_zero, List.set_cons_succ]
  refine wpAnyH_take (i := 17) (v := .pointer (some ⟨g, 0, none⟩)) rfl (by kernel_rfl) (by kernel_rfl) (by kernel_rfl) (fun _ _ _ h => h) (Or.inl ⟨by rfl, ?_⟩) hS0 ?_
  · intro w hSw; (try dsimp only at hSw); go_simp
  try simp only [List.getElem_toArray, List.getElem_cons_zero, List.getElem_cons_succ, Act.put, List.setIfInBounds_toArray, List.set_cons_zero, List.set_cons_succ]
  refine wpAnyH_take (i := 18) (v := .pointer (some ⟨g, 0, none⟩)) rfl (by kernel_rfl) (by kernel_rfl) (by kernel_rfl) (fun _ _ _ h => h) (Or.inl ⟨by rfl, ?_⟩) hS0 ?_
  · intro w hSw; (try dsimp only at hSw); go_simp
  try simp only [List.getElem_toArray, List.getElem_cons_zero, List.getElem_cons_succ, Act.put, List.setIfInBounds_toArray, List.set_cons_zero, List.set_cons_succ]
  refine wpAnyH_take (i := 19) (v := .pointer (some ⟨g, 2, none⟩)) rfl (by kernel_rfl) (by kernel_rfl) (by kernel_rfl) (fun _ _ _ h => h) (Or.inl ⟨by rfl, ?_⟩) hS0 ?_
  · intro w hSw; (try dsimp only at hSw); go_simp
  try simp only [List.getElem_toArray, List.getElem_cons_zero, List.getElem_cons_succ, Act.put, List.setIfInBounds_toArray, List.set_cons_zero, List.set_cons_succ]
  refine wpAnyH_take (i := 20) (v := .slice (some ⟨q, 0, none⟩) xs.length c) rfl (by kernel_rfl) (by kernel_rfl) (by kernel_rfl) (fun _ _ _ h => h) (Or.inl ⟨by rfl, ?_⟩) hS0 ?_
  · intro w hSw; (try dsimp only at hSw); go_simp
  try simp only [List.getElem_toArray, List.getElem_cons_zero, List.getElem_cons_succ, Act.put, List.setIfInBounds_toArray, List.set_cons_zero, List.set_cons_succ]
  refine wpAnyH_take (i := 21) (v := .int .i64 (i : Int)) rfl (by kernel_rfl) (by kernel_rfl) (by kernel_rfl) (fun _ _ _ h => h) (Or.inl ⟨by rfl, ?_⟩) hS0 ?_
  · intro w hSw; (try dsimp only at hSw); go_simp
  try simp only [List.getElem_toArray, List.getElem_cons_zero, List.getElem_cons_succ, Act.put, List.setIfInBounds_toArray, List.set_cons_zero, List.set_cons_succ]
  refine wpAnyH_take (i := 22) (v := .pointer (some ⟨q, i * 2, none⟩)) rfl (by kernel_rfl) (by kernel_rfl) (by kernel_rfl) (fun _ _ _ h => h) (Or.inl ⟨by rfl, ?_⟩) hS0 ?_
  · intro w hSw; (try dsimp only at hSw); go_simp
  try simp only [List.getElem_toArray, List.getElem_cons_zero, List.getElem_cons_succ, Act.put, List.setIfInBounds_toArray, List.set_cons_zero, List.set_cons_succ]
  refine wpAnyH_ready (rs := [16, 23]) (by kernel_rfl) (by simp) ?_
  refine AllReadyH.cons rfl (fun K hK => ?_) (AllReadyH.cons rfl (fun K hK => ?_) AllReadyH.nil)
  · go_simp
    refine hK.out _ _ hS0 (fun _ => ?_)
    clear hK K
    try simp only [List.getElem_toArray, List.getElem_cons_zero, List.getElem_cons_succ, Act.put, List.setIfInBounds_toArray, List.set_cons_zero, List.set_cons_succ]
    refine wpAnyH_ready (rs := [23]) (by kernel_rfl) (by simp) ?_
    refine AllReadyH.cons rfl (fun K hK => ?_) AllReadyH.nil
    go_simp
    refine hK.out _ _ hS0 (fun _ => ?_)
    clear hK K
    try simp only [List.getElem_toArray, List.getElem_cons_zero, List.getElem_cons_succ, Act.put, List.setIfInBounds_toArray, List.set_cons_zero, List.set_cons_succ]
    refine wpAnyH_take (i := 24) (v := .pointer (some ⟨q, i * 2, none⟩)) rfl (by kernel_rfl) (by kernel_rfl) (by kernel_rfl) (fun _ _ _ h => h) (Or.inl ⟨by rfl, ?_⟩) hS0 ?_
    · intro w hSw; (try dsimp only at hSw); go_simp
    try simp only [List.getElem_toArray, List.getElem_cons_zero, List.getElem_cons_succ, Act.put, List.setIfInBounds_toArray, List.set_cons_zero, List.set_cons_succ]
    refine wpAnyH_ready (rs := [25]) (by kernel_rfl) (by simp) ?_
    refine AllReadyH.cons rfl (fun K hK => ?_) AllReadyH.nil
    go_simp
    refine hK.out _ _ hS1 (fun _ => ?_)
    clear hK K
    try simp only [List.getElem_toArray, List.getElem_cons_zero, List.getElem_cons_succ, Act.put, List.setIfInBounds_toArray, List.set_cons_zero, List.set_cons_succ]
    refine wpAnyH_take (i := 26) (v := .pointer (some ⟨q, j * 2, none⟩)) rfl (by kernel_rfl) (by kernel_rfl) (by kernel_rfl) (fun _ _ _ h => h) (Or.inl ⟨by rfl, ?_⟩) hS1 ?_
    · intro w hSw; (try dsimp only at hSw); go_simp
    try simp only [List.getElem_toArray, List.getElem_cons_zero, List.getElem_cons_succ, Act.put, List.setIfInBounds_toArray, List.set_cons_zero, List.set_cons_succ]
    refine wpAnyH_ready (rs := [27]) (by kernel_rfl) (by simp) ?_
    refine AllReadyH.cons rfl (fun K hK => ?_) AllReadyH.nil
    go_simp
    refine hK.out _ _ hS2 (fun _ => ?_)
    clear hK K
    try simp only [List.getElem_toArray, List.getElem_cons_zero, List.getElem_cons_succ, Act.put, List.setIfInBounds_toArray, List.set_cons_zero, List.set_cons_succ]
    refine wpAnyH_done (by kernel_rfl) ?_ _
    clear hS0 hS1 hS2 d0 d1 d2 d3 r0 r1 e1 e2 ci0 ci1 cj0 cj1 fi0 fi1 fj0 fj1 g2 hX1 hX2
    obtain ⟨Y, hY⟩ : ∃ Y, X2.drew = Y := ⟨_, rfl⟩
    have HY := Lib.hid (swapY H.out HIJ.out.1 HIJ.out.2.1 HIJ.out.2.2 HX.out.1 HX.out.2 HXX.out.1 HXX.out.2 hY)
    rw [hY]
    clear hY HXX
    have HOK := Lib.hid (swap_ok H.out HIJ.out.1 HIJ.out.2.1 HIJ.out.2.2 HX.out.1 HX.out.2)
    have HM1 := Lib.hid (map_step HY.out.mp xj.id HOK.out.2.1.1 HOK.out.2.2.1 H.out.nb.1 i)
    have HKA : RowKit.Hid (∀ w', Below Y.heap.size Y w' → w'.cell? ⟨g, 1, none⟩ = some (.func (.func 18) #[] #[]) ∧ w'.cell? ⟨g, 2, none⟩ = some (.slice (some ⟨q, 0, none⟩) xs.length c) ∧ w'.cell? ⟨g, 3, none⟩ = some (.map (some mb)) ∧ w'.cell? ⟨q, i * 2, none⟩ = some (.int .i64 xj.id) ∧ w'.cell? ⟨q, i * 2 + 1, none⟩ = some (.int .i64 xj.t)) := Lib.hid (fun w' hb => by
      have k0 := HY.out.bx.below hb HY.out.bx.lt
      exact ⟨k0.cell 1, k0.cell 2, k0.cell 3, (hb.cell (p := ⟨q, i * 2, none⟩) HY.out.ql).trans HY.out.i0, (hb.cell (p := ⟨q, i * 2 + 1, none⟩) HY.out.ql).trans HY.out.i1⟩)
    have R0 : Below Y.heap.size Y Y := Below.refl _ _
    have HK1 := Lib.hid (fun W => show Calls Try.prog 18 #[.agg #[.int .i64 xj.id, .int .i64 xj.t]] W (fun e w' => e = .returned (.int .i64 xj.id) ∧ Below W.heap.size W w') from key35_any xj W)
    have HK2 := Lib.hid (fun W => show Calls Try.prog 18 #[.agg #[.int .i64 xi.id, .int .i64 xi.t]] W (fun e w' => e = .returned (.int .i64 xi.id) ∧ Below W.heap.size W w') from key35_any xi W)
    go_wp2_with (fail)
    go_region_held3 (fun w' => w'.cell? ⟨g, 1, none⟩ = some (.func (.func 18) #[] #[]) ∧ w'.cell? ⟨g, 2, none⟩ = some (.slice (some ⟨q, 0, none⟩) xs.length c) ∧ w'.cell? ⟨g, 3, none⟩ = some (.map (some mb)) ∧ w'.cell? ⟨q, i * 2, none⟩ = some (.int .i64 xj.id) ∧ w'.cell? ⟨q, i * 2 + 1, none⟩ = some (.int .i64 xj.t))
      (first | with_reducible assumption | with_reducible exact HKA.out _ R0 | with_reducible exact HKA.out _ R0.drew)
      (first
        | (go_at_call 18; (with_reducible refine (HK1.out _).mono ?_); rintro e w6 ⟨rfl, hb6⟩; have hb6' : Below Y.heap.size Y w6 := (Below.refl Y.heap.size Y).drew.trans hb6; have hS6 := HKA.out _ hb6'; obtain ⟨w7, hst7, hm7, hg7, hc7, hf7⟩ := HM1.out w6 hb6'; have hS7 := keep5 hc7 hS6; have H7 := Lib.hid (And.intro hb6' (And.intro hm7 (And.intro hg7 hc7))); clear hb6 hb6' hm7 hg7 hc7 hf7))
    clear hS6 hS7 hst7
    have HM2 := Lib.hid (map_step H7.out.2.1 xi.id HOK.out.1.1 HOK.out.2.2.2 H.out.nb.1 j)
    have HKB : RowKit.Hid (∀ w', Below w7.heap.size w7 w' → w'.cell? ⟨g, 1, none⟩ = some (.func (.func 18) #[] #[]) ∧ w'.cell? ⟨g, 2, none⟩ = some (.slice (some ⟨q, 0, none⟩) xs.length c) ∧ w'.cell? ⟨g, 3, none⟩ = some (.map (some mb)) ∧ w'.cell? ⟨q, j * 2, none⟩ = some (.int .i64 xi.id) ∧ w'.cell? ⟨q, j * 2 + 1, none⟩ = some (.int .i64 xi.t)) := Lib.hid (fun w' hb => by
      have z6 := H7.out.1.size
      have z7 := H7.out.2.2.1.size
      have k0 := HY.out.bx.below H7.out.1 HY.out.bx.lt
      have t : ∀ b o, b < Y.heap.size → w'.cell? ⟨b, o, none⟩ = w6.cell? ⟨b, o, none⟩ := fun b o hlt => (hb.cell (p := ⟨b, o, none⟩) (by show b < _; omega)).trans (H7.out.2.2.2 _)
      exact ⟨(t _ _ HY.out.bx.lt).trans (k0.cell 1), (t _ _ HY.out.bx.lt).trans (k0.cell 2), (t _ _ HY.out.bx.lt).trans (k0.cell 3), (t _ _ HY.out.ql).trans ((H7.out.1.cell (p := ⟨q, j * 2, none⟩) HY.out.ql).trans HY.out.j0), (t _ _ HY.out.ql).trans ((H7.out.1.cell (p := ⟨q, j * 2 + 1, none⟩) HY.out.ql).trans HY.out.j1)⟩)
    have R1 : Below w7.heap.size w7 w7 := Below.refl _ _
    go_wp2_with (fail)
    go_region_held3 (fun w' => w'.cell? ⟨g, 1, none⟩ = some (.func (.func 18) #[] #[]) ∧ w'.cell? ⟨g, 2, none⟩ = some (.slice (some ⟨q, 0, none⟩) xs.length c) ∧ w'.cell? ⟨g, 3, none⟩ = some (.map (some mb)) ∧ w'.cell? ⟨q, j * 2, none⟩ = some (.int .i64 xi.id) ∧ w'.cell? ⟨q, j * 2 + 1, none⟩ = some (.int .i64 xi.t))
      (first | with_reducible assumption | with_reducible exact HKB.out _ R1 | with_reducible exact HKB.out _ R1.drew)
      (first
        | (go_at_call 18; (with_reducible refine (HK2.out _).mono ?_); rintro e w8 ⟨rfl, hb8⟩; have hb8' : Below w7.heap.size w7 w8 := (Below.refl w7.heap.size w7).drew.trans hb8; have hS8 := HKB.out _ hb8'; obtain ⟨w9, hst9, hm9, hg9, hc9, hf9⟩ := HM2.out w8 hb8'; have hS9 := keep5 hc9 hS8; have H9 := Lib.hid (And.intro hb8' (And.intro hm9 hg9)); clear hb8 hb8' hm9 hg9 hc9 hf9))
    clear hS8 hS9 hst9
    go_wp2_with (fail)
    refine bodyPost_end (results_none rfl _ _ _) rfl ?_
    exact ⟨⟨_, rfl⟩, swap_end H.out HIJ.out.1 HIJ.out.2.1 HIJ.out.2.2 HX.out.1 HX.out.2 HY.out H7.out.1 H7.out.2.2.1 H9.out.1 H9.out.2.2 H9.out.2.1⟩
  · go_simp
    refine hK.out _ _ hS0 (fun _ => ?_)
    clear hK K
    try simp only [List.getElem_toArray, List.getElem_cons_zero, List.getElem_cons_succ, Act.put, List.setIfInBounds_toArray, List.set_cons_zero, List.set_cons_succ]
    refine wpAnyH_ready (rs := [16]) (by kernel_rfl) (by simp) ?_
    refine AllReadyH.cons rfl (fun K hK => ?_) AllReadyH.nil
    go_simp
    refine hK.out _ _ hS0 (fun _ => ?_)
    clear hK K
    try simp only [List.getElem_toArray, List.getElem_cons_zero, List.getElem_cons_succ, Act.put, List.setIfInBounds_toArray, List.set_cons_zero, List.set_cons_succ]
    refine wpAnyH_take (i := 24) (v := .pointer (some ⟨q, i * 2, none⟩)) rfl (by kernel_rfl) (by kernel_rfl) (by kernel_rfl) (fun _ _ _ h => h) (Or.inl ⟨by rfl, ?_⟩) hS0 ?_
    · intro w hSw; (try dsimp only at hSw); go_simp
    try simp only [List.getElem_toArray, List.getElem_cons_zero, List.getElem_cons_succ, Act.put, List.setIfInBounds_toArray, List.set_cons_zero, List.set_cons_succ]
    refine wpAnyH_ready (rs := [25]) (by kernel_rfl) (by simp) ?_
    refine AllReadyH.cons rfl (fun K hK => ?_) AllReadyH.nil
    go_simp
    refine hK.out _ _ hS1 (fun _ => ?_)
    clear hK K
    try simp only [List.getElem_toArray, List.getElem_cons_zero, List.getElem_cons_succ, Act.put, List.setIfInBounds_toArray, List.set_cons_zero, List.set_cons_succ]
    refine wpAnyH_take (i := 26) (v := .pointer (some ⟨q, j * 2, none⟩)) rfl (by kernel_rfl) (by kernel_rfl) (by kernel_rfl) (fun _ _ _ h => h) (Or.inl ⟨by rfl, ?_⟩) hS1 ?_
    · intro w hSw; (try dsimp only at hSw); go_simp
    try simp only [List.getElem_toArray, List.getElem_cons_zero, List.getElem_cons_succ, Act.put, List.setIfInBounds_toArray, List.set_cons_zero, List.set_cons_succ]
    refine wpAnyH_ready (rs := [27]) (by kernel_rfl) (by simp) ?_
    refine AllReadyH.cons rfl (fun K hK => ?_) AllReadyH.nil
    go_simp
    refine hK.out _ _ hS2 (fun _ => ?_)
    clear hK K
    try simp only [List.getElem_toArray, List.getElem_cons_zero, List.getElem_cons_succ, Act.put, List.setIfInBounds_toArray, List.set_cons_zero, List.set_cons_succ]
    refine wpAnyH_done (by kernel_rfl) ?_ _
    clear hS0 hS1 hS2 d0 d1 d2 d3 r0 r1 e1 e2 ci0 ci1 cj0 cj1 fi0 fi1 fj0 fj1 g2 hX1 hX2
    obtain ⟨Y, hY⟩ : ∃ Y, X2.drew = Y := ⟨_, rfl⟩
    have HY := Lib.hid (swapY H.out HIJ.out.1 HIJ.out.2.1 HIJ.out.2.2 HX.out.1 HX.out.2 HXX.out.1 HXX.out.2 hY)
    rw [hY]
    clear hY HXX
    have HOK := Lib.hid (swap_ok H.out HIJ.out.1 HIJ.out.2.1 HIJ.out.2.2 HX.out.1 HX.out.2)
    have HM1 := Lib.hid (map_step HY.out.mp xj.id HOK.out.2.1.1 HOK.out.2.2.1 H.out.nb.1 i)
    have HKA : RowKit.Hid (∀ w', Below Y.heap.size Y w' → w'.cell? ⟨g, 1, none⟩ = some (.func (.func 18) #[] #[]) ∧ w'.cell? ⟨g, 2, none⟩ = some (.slice (some ⟨q, 0, none⟩) xs.length c) ∧ w'.cell? ⟨g, 3, none⟩ = some (.map (some mb)) ∧ w'.cell? ⟨q, i * 2, none⟩ = some (.int .i64 xj.id) ∧ w'.cell? ⟨q, i * 2 + 1, none⟩ = some (.int .i64 xj.t)) := Lib.hid (fun w' hb => by
      have k0 := HY.out.bx.below hb HY.out.bx.lt
      exact ⟨k0.cell 1, k0.cell 2, k0.cell 3, (hb.cell (p := ⟨q, i * 2, none⟩) HY.out.ql).trans HY.out.i0, (hb.cell (p := ⟨q, i * 2 + 1, none⟩) HY.out.ql).trans HY.out.i1⟩)
    have R0 : Below Y.heap.size Y Y := Below.refl _ _
    have HK1 := Lib.hid (fun W => show Calls Try.prog 18 #[.agg #[.int .i64 xj.id, .int .i64 xj.t]] W (fun e w' => e = .returned (.int .i64 xj.id) ∧ Below W.heap.size W w') from key35_any xj W)
    have HK2 := Lib.hid (fun W => show Calls Try.prog 18 #[.agg #[.int .i64 xi.id, .int .i64 xi.t]] W (fun e w' => e = .returned (.int .i64 xi.id) ∧ Below W.heap.size W w') from key35_any xi W)
    go_wp2_with (fail)
    go_region_held3 (fun w' => w'.cell? ⟨g, 1, none⟩ = some (.func (.func 18) #[] #[]) ∧ w'.cell? ⟨g, 2, none⟩ = some (.slice (some ⟨q, 0, none⟩) xs.length c) ∧ w'.cell? ⟨g, 3, none⟩ = some (.map (some mb)) ∧ w'.cell? ⟨q, i * 2, none⟩ = some (.int .i64 xj.id) ∧ w'.cell? ⟨q, i * 2 + 1, none⟩ = some (.int .i64 xj.t))
      (first | with_reducible assumption | with_reducible exact HKA.out _ R0 | with_reducible exact HKA.out _ R0.drew)
      (first
        | (go_at_call 18; (with_reducible refine (HK1.out _).mono ?_); rintro e w6 ⟨rfl, hb6⟩; have hb6' : Below Y.heap.size Y w6 := (Below.refl Y.heap.size Y).drew.trans hb6; have hS6 := HKA.out _ hb6'; obtain ⟨w7, hst7, hm7, hg7, hc7, hf7⟩ := HM1.out w6 hb6'; have hS7 := keep5 hc7 hS6; have H7 := Lib.hid (And.intro hb6' (And.intro hm7 (And.intro hg7 hc7))); clear hb6 hb6' hm7 hg7 hc7 hf7))
    clear hS6 hS7 hst7
    have HM2 := Lib.hid (map_step H7.out.2.1 xi.id HOK.out.1.1 HOK.out.2.2.2 H.out.nb.1 j)
    have HKB : RowKit.Hid (∀ w', Below w7.heap.size w7 w' → w'.cell? ⟨g, 1, none⟩ = some (.func (.func 18) #[] #[]) ∧ w'.cell? ⟨g, 2, none⟩ = some (.slice (some ⟨q, 0, none⟩) xs.length c) ∧ w'.cell? ⟨g, 3, none⟩ = some (.map (some mb)) ∧ w'.cell? ⟨q, j * 2, none⟩ = some (.int .i64 xi.id) ∧ w'.cell? ⟨q, j * 2 + 1, none⟩ = some (.int .i64 xi.t)) := Lib.hid (fun w' hb => by
      have z6 := H7.out.1.size
      have z7 := H7.out.2.2.1.size
      have k0 := HY.out.bx.below H7.out.1 HY.out.bx.lt
      have t : ∀ b o, b < Y.heap.size → w'.cell? ⟨b, o, none⟩ = w6.cell? ⟨b, o, none⟩ := fun b o hlt => (hb.cell (p := ⟨b, o, none⟩) (by show b < _; omega)).trans (H7.out.2.2.2 _)
      exact ⟨(t _ _ HY.out.bx.lt).trans (k0.cell 1), (t _ _ HY.out.bx.lt).trans (k0.cell 2), (t _ _ HY.out.bx.lt).trans (k0.cell 3), (t _ _ HY.out.ql).trans ((H7.out.1.cell (p := ⟨q, j * 2, none⟩) HY.out.ql).trans HY.out.j0), (t _ _ HY.out.ql).trans ((H7.out.1.cell (p := ⟨q, j * 2 + 1, none⟩) HY.out.ql).trans HY.out.j1)⟩)
    have R1 : Below w7.heap.size w7 w7 := Below.refl _ _
    go_wp2_with (fail)
    go_region_held3 (fun w' => w'.cell? ⟨g, 1, none⟩ = some (.func (.func 18) #[] #[]) ∧ w'.cell? ⟨g, 2, none⟩ = some (.slice (some ⟨q, 0, none⟩) xs.length c) ∧ w'.cell? ⟨g, 3, none⟩ = some (.map (some mb)) ∧ w'.cell? ⟨q, j * 2, none⟩ = some (.int .i64 xi.id) ∧ w'.cell? ⟨q, j * 2 + 1, none⟩ = some (.int .i64 xi.t))
      (first | with_reducible assumption | with_reducible exact HKB.out _ R1 | with_reducible exact HKB.out _ R1.drew)
      (first
        | (go_at_call 18; (with_reducible refine (HK2.out _).mono ?_); rintro e w8 ⟨rfl, hb8⟩; have hb8' : Below w7.heap.size w7 w8 := (Below.refl w7.heap.size w7).drew.trans hb8; have hS8 := HKB.out _ hb8'; obtain ⟨w9, hst9, hm9, hg9, hc9, hf9⟩ := HM2.out w8 hb8'; have hS9 := keep5 hc9 hS8; have H9 := Lib.hid (And.intro hb8' (And.intro hm9 hg9)); clear hb8 hb8' hm9 hg9 hc9 hf9))
    clear hS8 hS9 hst9
    go_wp2_with (fail)
    refine bodyPost_end (results_none rfl _ _ _) rfl ?_
    exact ⟨⟨_, rfl⟩, swap_end H.out HIJ.out.1 HIJ.out.2.1 HIJ.out.2.2 HX.out.1 HX.out.2 HY.out H7.out.1 H7.out.2.2.1 H9.out.1 H9.out.2.2 H9.out.2.1⟩
end Go.Proofs.Ytkdijafnakpfhaa
