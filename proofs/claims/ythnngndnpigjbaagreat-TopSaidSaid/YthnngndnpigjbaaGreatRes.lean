/- Results of which the first lies in memory. No program in sight. Conditions: none. Small words on slices that are owned. No program's function in sight. Conditions: none. Lists of structs in memory: the cells of a list, one behind the other. Plain: no program in sight. Conditions: none. What is read, as the source of an append. Plain: no program in sight. Conditions: none. The builtin clear; the head of a slice that is owned. Plain: no program in sight. Conditions: none. -/
import Derived.Test.YthnngndnpigjbaaGreatSl
import Derived.Laws.ResultCell
import Derived.Laws.Rows
import Derived.Lib.SliceRun
namespace Go.Proofs.YthnngndnpigjbaaGreat
open Go.RowKit Go.Lib

theorem res_c {P : Program} {fn : Func} {p : Tmp} {ty : TypeId} (h : fn.results = #[.cell p ty]) (tmps : Array Value) (w : World) (g : Nat) (t : TypeId) (cs : Array Value) (d : TypeDesc)
    (hp : tmps.getD p undef = .pointer (some ⟨g, 0, none⟩)) (hg : Blk w g t cs) (hu : P.underlying ty = some d) (hd : (match d with | .struct _ | .array _ _ => true | _ => false) = true) (hi : (P.info? ty).map (·.size) = some cs.size) :
    (results fn tmps).run P w = .ok (.agg cs) w := by
  have hp' : tmps[p]?.getD undef = .pointer (some ⟨g, 0, none⟩) := by simpa using hp
  simp [results, h, hp', asAddr, run_loadVar_row w g t ty cs _ d hg hu hd hi]
theorem res_ct {P : Program} {fn : Func} {p u : Tmp} {ty : TypeId} (h : fn.results = #[.cell p ty, .tmp u]) (tmps : Array Value) (w : World) (g : Nat) (t : TypeId) (cs : Array Value) (d : TypeDesc)
    (hp : tmps.getD p undef = .pointer (some ⟨g, 0, none⟩)) (hg : Blk w g t cs) (hu : P.underlying ty = some d) (hd : (match d with | .struct _ | .array _ _ => true | _ => false) = true) (hi : (P.info? ty).map (·.size) = some cs.size) :
    (results fn tmps).run P w = .ok (.tuple #[.agg cs, tmps.getD u undef]) w := by
  have hp' : tmps[p]?.getD undef = .pointer (some ⟨g, 0, none⟩) := by simpa using hp
  simp [results, h, hp', asAddr, Result.andThen, run_loadVar_row w g t ty cs _ d hg hu hd hi]
theorem res_cct {P : Program} {fn : Func} {p q u : Tmp} {ty ty2 : TypeId} (h : fn.results = #[.cell p ty, .cell q ty2, .tmp u]) (tmps : Array Value) (w : World) (g g2 : Nat) (t t2 : TypeId) (cs cs2 : Array Value) (d d2 : TypeDesc)
    (hp : tmps.getD p undef = .pointer (some ⟨g, 0, none⟩)) (hg : Blk w g t cs) (hu : P.underlying ty = some d) (hd : (match d with | .struct _ | .array _ _ => true | _ => false) = true) (hi : (P.info? ty).map (·.size) = some cs.size)
    (hp2 : tmps.getD q undef = .pointer (some ⟨g2, 0, none⟩)) (hg2 : Blk w g2 t2 cs2) (hu2 : P.underlying ty2 = some d2) (hd2 : (match d2 with | .struct _ | .array _ _ => true | _ => false) = true) (hi2 : (P.info? ty2).map (·.size) = some cs2.size) :
    (results fn tmps).run P w = .ok (.tuple #[.agg cs, .agg cs2, tmps.getD u undef]) w := by
  have hp' : tmps[p]?.getD undef = .pointer (some ⟨g, 0, none⟩) := by simpa using hp
  have hq' : tmps[q]?.getD undef = .pointer (some ⟨g2, 0, none⟩) := by simpa using hp2
  simp [results, h, hp', hq', asAddr, Result.andThen, run_loadVar_row w g t ty cs _ d hg hu hd hi, run_loadVar_row w g2 t2 ty2 cs2 _ d2 hg2 hu2 hd2 hi2]
end Go.Proofs.YthnngndnpigjbaaGreat

namespace Go.Proofs.YthnngndnpigjbaaGreat
open Go.RowKit

theorem sl_empty (w : World) (t : TypeId) : Sl (w.alloc (.cells #[] t)) 1 (.slice (some ⟨w.heap.size, 0, none⟩) 0 0) 0 [] :=
  ⟨rfl, .inr ⟨w.heap.size, 0, rfl, by simp, Nat.le_refl _, Nat.zero_le _, fun j hj => absurd hj (by omega), fun j u hu => by simp at hu⟩⟩
/-- One value more in a new block, as the source of an append. -/
theorem src_new {P : Program} {tx e' : TypeId} (hk : P.underlying tx = some (.slice e')) (w : World) (t : TypeId) (u : Value) (h1 : u.oneCell' = true) : Src P 1 tx (.slice (some ⟨w.heap.size, 0, none⟩) 1 1) 1 [u] (w.alloc (.cells #[u] t)) :=
  Src.ofSlice _ hk ⟨w.heap.size, 0, none⟩ 1 1 [u] rfl (fun j x hx => by
    match j, hx with
    | 0, hx =>
      have : u = x := by simpa using hx
      subst this
      simp [Addr.add]
    | j + 1, hx => simp at hx) (fun x hx => by rw [List.mem_singleton.1 hx]; exact h1)
/-- How an append keeps the owner's block on the call's own side. -/
theorem own_from {B : Nat} {w : World} {v v' : Value} (h : ∀ g, v.ownBlock = some g → B ≤ g) (hB : B ≤ w.heap.size) (hv : v'.ownBlock = v.ownBlock ∨ v'.ownBlock = some w.heap.size) : ∀ g, v'.ownBlock = some g → B ≤ g := by
  intro g hg
  rcases hv with e | e
  · exact h g (e.symm.trans hg)
  · rw [hg] at e
    have : g = w.heap.size := Option.some.inj e
    omega

/-- 's[lo:hi]', at numbers that are known. -/
theorem slice_nat {P : Program} {t : TypeId} (hu : P.underlying t = some .string) (s : ByteArray) (a b : Nat) (lo hi : Int) (hlo : lo = (a : Int)) (hhi : hi = (b : Int)) (h1 : a ≤ b) (h2 : b ≤ s.size) (W : World) :
    (Instr.slice t (.string s) (some (.int .i64 lo)) (some (.int .i64 hi)) none).run P W = .ok (.string (s.extract a b)) W := by
  subst hlo hhi
  have := run_slice_string (P := P) W t s .i64 .i64 (a : Int) (b : Int) hu (by omega) (by omega) (by omega)
  simpa using this
end Go.Proofs.YthnngndnpigjbaaGreat

namespace Go.Proofs.YthnngndnpigjbaaGreat
open Go.RowKit

section
variable {α : Type} {vs : α → List Value} {k : Nat}
/-- The cells of a list. -/
def flatV (vs : α → List Value) (xs : List α) : List Value := xs.flatMap vs
theorem flatV_cons (e : α) (xs : List α) : flatV vs (e :: xs) = vs e ++ flatV vs xs := rfl
theorem flatV_append (xs ys : List α) : flatV vs (xs ++ ys) = flatV vs xs ++ flatV vs ys := by simp [flatV]
theorem flatV_one (e : α) : flatV vs [e] = vs e := by simp [flatV]
theorem flatV_length (hk : ∀ e, (vs e).length = k) (xs : List α) : (flatV vs xs).length = xs.length * k := by
  induction xs with
  | nil => simp [flatV]
  | cons e xs ih => rw [flatV_cons, List.length_append, ih, hk, List.length_cons, Nat.add_mul, Nat.one_mul, Nat.add_comm]
theorem flatV_at (hk : ∀ e, (vs e).length = k) : ∀ (xs : List α) (j : Nat) (e : α) (i : Nat) (v : Value), xs[j]? = some e → (vs e)[i]? = some v → (flatV vs xs)[j * k + i]? = some v
  | [], j, e, i, v, h, _ => by simp at h
  | f :: xs, 0, e, i, v, h, hv => by
    have : f = e := by simpa using h
    subst this
    have hi : i < (vs f).length := (List.getElem?_eq_some_iff.1 hv).1
    rw [flatV_cons, Nat.zero_mul, Nat.zero_add, List.getElem?_append_left hi]
    exact hv
  | f :: xs, j + 1, e, i, v, h, hv => by
    have h2 := hk f
    rw [flatV_cons, List.getElem?_append_right (by rw [h2, Nat.add_mul]; omega), h2, show (j + 1) * k + i - k = j * k + i by rw [Nat.add_mul]; omega]
    exact flatV_at hk xs j e i v (by simpa using h) hv
theorem flatV_get (hk : ∀ e, (vs e).length = k) (hp : 0 < k) : ∀ (xs : List α) (j : Nat) (u : Value), (flatV vs xs)[j]? = some u → ∃ e, xs[j / k]? = some e ∧ (vs e)[j % k]? = some u
  | [], j, u, h => by simp [flatV] at h
  | e :: xs, j, u, h => by
    rw [flatV_cons] at h
    by_cases hj : j < k
    · rw [List.getElem?_append_left (by rw [hk]; exact hj)] at h
      rw [Nat.div_eq_of_lt hj, Nat.mod_eq_of_lt hj]
      exact ⟨e, rfl, h⟩
    · rw [List.getElem?_append_right (by rw [hk]; omega), hk] at h
      obtain ⟨f, hf, hv⟩ := flatV_get hk hp xs (j - k) u h
      have h4 : j / k = (j - k) / k + 1 := by rw [Nat.div_eq j k, if_pos ⟨hp, by omega⟩]
      have h5 : j % k = (j - k) % k := by rw [Nat.mod_eq_sub_mod (by omega)]
      exact ⟨f, by rw [h4]; simpa using hf, by rw [h5]; exact hv⟩

/-- A slice that reads as a list. -/
def GTab (vs : α → List Value) (k : Nat) (w : World) (A : Option Addr) (xs : List α) : Prop :=
  0 < xs.length → ∃ b off, A = some ⟨b, off, none⟩ ∧ b < w.heap.size ∧ ∀ (j : Nat) (e : α), xs[j]? = some e → ∀ i v, (vs e)[i]? = some v → w.cell? ⟨b, off + j * k + i, none⟩ = some v
theorem GTab.below {w w' : World} {A : Option Addr} {xs : List α} (h : GTab vs k w A xs) (hb : Below w.heap.size w w') : GTab vs k w' A xs := by
  intro hn
  obtain ⟨b, off, hA, hlt, hc⟩ := h hn
  refine ⟨b, off, hA, Nat.lt_of_lt_of_le hlt hb.size, fun j e he i v hv => ?_⟩
  rw [hb.cell (p := ⟨b, off + j * k + i, none⟩) hlt]
  exact hc j e he i v hv
/-- The same, where the list lies below B. -/
def GTabB (vs : α → List Value) (k : Nat) (w : World) (B : Nat) (A : Option Addr) (xs : List α) : Prop :=
  0 < xs.length → ∃ b off, A = some ⟨b, off, none⟩ ∧ b < B ∧ ∀ (j : Nat) (e : α), xs[j]? = some e → ∀ i v, (vs e)[i]? = some v → w.cell? ⟨b, off + j * k + i, none⟩ = some v
theorem GTab.of_sl (hk : ∀ e, (vs e).length = k) {w : World} {A : Option Addr} {c : Nat} {xs : List α} (h : Sl w k (.slice A xs.length c) xs.length (flatV vs xs)) : GTab vs k w A xs := by
  intro hp
  obtain ⟨g, cap, hv, hg, _, _, h4⟩ := h.form hp
  injection hv with hA _ _
  subst hA
  refine ⟨g, 0, rfl, hg, fun j e he i u hu => ?_⟩
  have := h4 (j * k + i) u (flatV_at hk xs j e i u he hu)
  simpa using this
theorem add_lit' (b off j : Nat) : (⟨b, off, none⟩ : Addr).add j = ⟨b, off + j, none⟩ := by unfold Addr.add; split <;> simp_all
theorem GTab.reads (hk : ∀ e, (vs e).length = k) (hp : 0 < k) {w : World} {A : Option Addr} {xs : List α} (h : GTab vs k w A xs) : Reads w w.heap.size k A xs.length (flatV vs xs) := by
  refine ⟨flatV_length hk xs, fun hn => ?_⟩
  obtain ⟨b, off, hA, hlt, hc⟩ := h hn
  refine ⟨⟨b, off, none⟩, hA, hlt, fun j u hu => ?_⟩
  obtain ⟨e, he, hv⟩ := flatV_get hk hp xs j u hu
  rw [add_lit']
  have := hc (j / k) e he (j % k) u hv
  have h2 := Nat.div_add_mod j k
  rw [Nat.mul_comm] at h2
  rw [show off + j / k * k + j % k = off + j by omega] at this
  exact this
theorem GTab.nil_ {w : World} {A : Option Addr} : GTab vs k w A [] := fun h => absurd h (by simp)
end
end Go.Proofs.YthnngndnpigjbaaGreat

namespace Go.Proofs.YthnngndnpigjbaaGreat
open Go.RowKit

theorem src_reads {P : Program} {tx e' : TypeId} (hk : P.underlying tx = some (.slice e')) {W : World} {B size n c : Nat} {A : Option Addr} {xs : List Value} (h : Reads W B size A n xs) (hx : ∀ u ∈ xs, u.oneCell' = true) : Src P size tx (.slice A n c) n xs W := by
  rcases Nat.eq_zero_or_pos n with h0 | hp
  · subst h0
    have hx0 : xs = [] := List.eq_nil_of_length_eq_zero (by simpa using h.1)
    subst hx0
    cases A with
    | none => exact Src.ofNil _ hk c
    | some a => exact Src.ofSlice _ hk a 0 c [] (by simp) (fun j u hu => by simp at hu) (fun u hu => by cases hu)
  · obtain ⟨a, rfl, _, hc⟩ := h.2 hp
    exact Src.ofSlice _ hk a n c xs h.1 hc hx
theorem src_own {P : Program} {tx e' : TypeId} (hk : P.underlying tx = some (.slice e')) {W : World} {size n c : Nat} {A : Option Addr} {xs : List Value} (h : Sl W size (.slice A n c) n xs) (hx : ∀ u ∈ xs, u.oneCell' = true) : Src P size tx (.slice A n c) n xs W := by
  obtain ⟨A2, c2, hv, _, _, hr⟩ := h.reads
  injection hv with h1 _ h3
  subst h1 h3
  exact src_reads hk hr hx
end Go.Proofs.YthnngndnpigjbaaGreat

namespace Go.Proofs.YthnngndnpigjbaaGreat
open Go.RowKit Go.Lib

theorem run_clear_any {P : Program} (w : World) (t e ty : TypeId) (z : Value) (ht : P.underlying t = some (.slice e)) (hv : ∀ w, (zeroValue e).run P w = .ok z w) (b o n c : Nat) (hn : 0 < n)
    (h1 : ∀ v ∈ (Builtin.zeroCells z.cells n).toList, v.oneCell' = true)
    (hc : ∀ j, j < (Builtin.zeroCells z.cells n).toList.length → (w.cell? ⟨b, o + j, none⟩).isSome = true) (hf : ∀ j, j < (Builtin.zeroCells z.cells n).toList.length → w.frozen? ⟨b, o + j, none⟩ = false) :
    (Builtin.clear_ #[t] ty #[.slice (some ⟨b, o, none⟩) n c]).run P w = .ok (.tuple #[]) (w.setCells b o (Builtin.zeroCells z.cells n).toList) := by
  have hst := run_storeCells_cells (P := P) b o (Builtin.zeroCells z.cells n).toList 0 w (by simpa using hc) (by simpa using hf) h1
  simp only [Nat.add_zero] at hst
  obtain ⟨m, rfl⟩ : ∃ m, n = m + 1 := ⟨n - 1, by omega⟩
  simp [Builtin.clear_, run_underlying ht, hv, hst]
/-- The head of a slice that is owned, when what lies behind is written over. -/
theorem Sl.cut {w : World} {size g n c : Nat} {xs : List Value} (h : Sl w size (.slice (some ⟨g, 0, none⟩) n c) n xs) (m : Nat) (hm : m ≤ n) (vs : List Value) (hvs : m * size + vs.length ≤ n * size) :
    Sl (w.setCells g (m * size) vs) size (.slice (some ⟨g, 0, none⟩) m c) m (xs.take (m * size)) := by
  rcases h.2 with ⟨hv, _⟩ | ⟨g', cap, hv, hl, h1, h2, h3, h4⟩
  · cases hv
  · injection hv with e1 e2 e3
    injection e1 with e1
    injection e1 with e1 _ _
    subst e1 e3
    have hcap : n * size ≤ c * size := Nat.mul_le_mul_right _ h1
    have hms : m * size ≤ n * size := Nat.mul_le_mul_right _ hm
    have hsome : ∀ j, j < vs.length → (w.cell? ⟨g, m * size + j, none⟩).isSome = true := fun j hj => (h3 _ (by omega)).1
    refine ⟨by rw [List.length_take, h.1]; omega, .inr ⟨g, c, rfl, ?_, by omega, h2, fun j hj => ⟨?_, ?_⟩, fun j u hu => ?_⟩⟩
    · have := (World.keptBut_setCells g (may := fun _ => True) vs (m * size) w (fun _ _ => trivial)).size
      omega
    · by_cases hin : m * size ≤ j ∧ j < m * size + vs.length
      · have := World.cell?_setCells_in g vs (m * size) w hsome (j - m * size) (by omega)
        rw [show m * size + (j - m * size) = j by omega] at this
        rw [this]; rfl
      · rw [World.cell?_setCells_out g _ _ _ _ (fun _ _ => by show j < _ ∨ _ ≤ j; omega)]
        exact (h3 j hj).1
    · exact (World.frozen?_setCells g _ _ _ _).trans (h3 j hj).2
    · have hj : j < m * size := by
        have := (List.getElem?_eq_some_iff.1 hu).1
        rw [List.length_take] at this
        omega
      rw [World.cell?_setCells_out g _ _ _ _ (fun _ _ => by show j < _ ∨ _ ≤ j; left; omega)]
      rw [List.getElem?_take_of_lt hj] at hu
      exact h4 j u hu
theorem KeepK.setCells {K : Nat → Prop} {a w : World} (h : KeepK K a w) (g o : Nat) (vs : List Value) (hK : ∀ i, K i → i < w.heap.size ∧ i ≠ g) : KeepK K a (w.setCells g o vs) :=
  h.trans ⟨World.os_setCells _ _ _ _, tape_setCells g vs o w, World.output_setCells _ _ _ _, (World.keptBut_setCells g (may := fun _ => True) vs o w (fun _ _ => trivial)).size, fun i hi => World.heap_setCells_other w g o vs (hK i hi).1 (hK i hi).2⟩
/-- A slice that is owned, a part of whose cells is written over. -/
theorem Sl.over {w : World} {g n c : Nat} {xs : List Value} (h : Sl w 1 (.slice (some ⟨g, 0, none⟩) n c) n xs) (o : Nat) (vs : List Value) (hvs : o + vs.length ≤ n) :
    Sl (w.setCells g o vs) 1 (.slice (some ⟨g, 0, none⟩) n c) n (xs.take o ++ vs ++ xs.drop (o + vs.length)) := by
  rcases h.2 with ⟨hv, _⟩ | ⟨g', cap, hv, hl, h1, h2, h3, h4⟩
  · cases hv
  · injection hv with e1 e2 e3
    injection e1 with e1
    injection e1 with e1 _ _
    subst e1 e3
    have hlen : xs.length = n := by have := h.1; omega
    have hsome : ∀ j, j < vs.length → (w.cell? ⟨g, o + j, none⟩).isSome = true := fun j hj => (h3 _ (by omega)).1
    refine ⟨by simp; omega, .inr ⟨g, c, rfl, ?_, h1, h2, fun j hj => ⟨?_, ?_⟩, fun j u hu => ?_⟩⟩
    · have := (World.keptBut_setCells g (may := fun _ => True) vs o w (fun _ _ => trivial)).size
      omega
    · by_cases hin : o ≤ j ∧ j < o + vs.length
      · have := World.cell?_setCells_in g vs o w hsome (j - o) (by omega)
        rw [show o + (j - o) = j by omega] at this
        rw [this]; rfl
      · rw [World.cell?_setCells_out g _ _ _ _ (fun _ _ => by show j < _ ∨ _ ≤ j; omega)]
        exact (h3 j hj).1
    · exact (World.frozen?_setCells g _ _ _ _).trans (h3 j hj).2
    · rw [List.append_assoc] at hu
      by_cases hj1 : j < o
      · rw [List.getElem?_append_left (by rw [List.length_take]; omega), List.getElem?_take_of_lt hj1] at hu
        rw [World.cell?_setCells_out g _ _ _ _ (fun _ _ => by show j < _ ∨ _ ≤ j; omega)]
        exact h4 j u hu
      · rw [List.getElem?_append_right (by rw [List.length_take]; omega), List.length_take, Nat.min_eq_left (by omega)] at hu
        by_cases hj2 : j < o + vs.length
        · rw [List.getElem?_append_left (by omega)] at hu
          have := World.cell?_setCells_in g vs o w hsome (j - o) (by omega)
          rw [show o + (j - o) = j by omega] at this
          rw [this]
          exact (List.getElem?_eq_some_iff.1 hu).2 ▸ rfl
        · rw [List.getElem?_append_right (by omega), List.getElem?_drop, show o + vs.length + (j - o - vs.length) = j by omega] at hu
          rw [World.cell?_setCells_out g _ _ _ _ (fun _ _ => by show j < _ ∨ _ ≤ j; omega)]
          exact h4 j u hu
end Go.Proofs.YthnngndnpigjbaaGreat
