/- The walk of hardtacklaw35.WheelOrder. Conditions: none. -/
import Derived.Test.YtkdijafnakpfhaaWheelQ
import Derived.Test.YtkdijafnakpfhaaOpenI64
import Derived.Laws.OwnMore
namespace Go.Proofs.Ytkdijafnakpfhaa
open Go.RowKit Go.Lib

theorem WV.keepK {w w' : World} {g mb N : Nat} {A : Option Addr} {v : List Th} {K : Nat → Prop} (h : WV w g mb A N v) (hk : KeepK K w w') (hg : K g) (hm : K mb) (hA : ∀ q, A = some q → K q.block) : WV w' g mb A N v := by
  obtain ⟨c, xs, f, h1, h2⟩ := h
  obtain ⟨F, m1, m2⟩ := h1.mp
  refine ⟨c, xs, f, ⟨h1.bx.keepK hk hg, Sl.keepK h1.it hk fun q hq => ?_, ⟨F, m1.keepK hk hm, m2⟩, h1.ne, h1.pl, h1.ok, h1.nb⟩, h2⟩
  rw [own_map] at hq
  cases A with
  | none => cases hq
  | some p =>
    injection hq with hq
    subst hq
    exact hA p rfl
theorem LW.far {K : Nat → Prop} {w w' : World} {g mb N : Nat} {v : List Th} {o o' : Option Nat} (h : LW (fun b => K b ∨ o = some b) w g mb N v) (hk : KeepK (fun b => b < w.heap.size ∧ o ≠ some b) w w') (ho : ∀ p, o' = some p → o = some p ∨ w.heap.size ≤ p) (hl : ∀ p, o' = some p → p < w'.heap.size) :
    LW (fun b => K b ∨ o' = some b) w' g mb N v := by
  obtain ⟨A, h1, h2⟩ := h
  have L := h1.lt
  refine ⟨A, h1.keepK hk ⟨L.1, fun e => (h2 g (.inr e)).2.1 rfl⟩ ⟨L.2.1, fun e => (h2 mb (.inr e)).2.2.1 rfl⟩ (fun q hq => ⟨(L.2.2 q hq).1, fun e => (h2 q.block (.inr e)).2.2.2 q hq rfl⟩), fun b hb => ?_⟩
  rcases hb with hb | hb
  · exact ⟨Nat.lt_of_lt_of_le (h2 b (.inl hb)).1 hk.size, (h2 b (.inl hb)).2⟩
  · rcases ho b hb with e | e
    · exact ⟨Nat.lt_of_lt_of_le (h2 b (.inr e)).1 hk.size, (h2 b (.inr e)).2⟩
    · exact ⟨hl b hb, by omega, by omega, fun q hq => by have := (L.2.2 q hq).1; omega⟩
theorem LW.pop2 {K : Nat → Prop} {w : World} {g mb N : Nat} {v : List Th} (h : LW K w g mb N v) (now : Int) :
    Calls Try.prog 13 #[.pointer (some ⟨g, 0, none⟩), .int .i64 now] w fun e w' => ∃ A2 c2, e = .returned (.slice A2 (popV v.length v now).1.length c2) ∧ Sl w' 1 (.slice A2 (popV v.length v now).1.length c2) (popV v.length v now).1.length ((popV v.length v now).1.map idV) ∧ (∀ q, (Value.slice A2 (popV v.length v now).1.length c2).ownBlock = some q → w.heap.size ≤ q) ∧ LW K w' g mb N (popV v.length v now).2 ∧ KeepK K w w' := by
  obtain ⟨A, h1, h2⟩ := h
  refine (pop_any35 h1 now).mono ?_
  rintro e w' ⟨A2, c2, rfl, k1, k2, k3, k4⟩
  exact ⟨A2, c2, rfl, k1, k2, ⟨A, k3, fun b hb => ⟨Nat.lt_of_lt_of_le (h2 b hb).1 k4.size, (h2 b hb).2⟩⟩, lw_keep h2 k4⟩
/-- A row of flags: those whose number has come. -/
def seenL (n : Nat) (s : List Th) : List Value := (List.range n).map fun i : Nat => .bool (hasId s (i : Int))
theorem seen_nil (n : Nat) : seenL n [] = List.replicate n (.bool false) := by
  unfold seenL
  rw [List.eq_replicate_iff]
  refine ⟨by simp, fun b hb => ?_⟩
  obtain ⟨i, _, rfl⟩ := List.mem_map.1 hb
  rfl
theorem seen_at {n : Nat} (s : List Th) {i : Nat} (hi : i < n) : (seenL n s)[i]? = some (.bool (hasId s (i : Int))) := by
  unfold seenL
  rw [List.getElem?_map, List.getElem?_range hi]
  rfl
theorem seen_set {n : Nat} {s : List Th} {x : Th} {i : Nat} (hi : i < n) (hx : x.id = (i : Int)) : (seenL n s).set i (.bool true) = seenL n (s ++ [x]) := by
  refine List.ext_getElem? fun j => ?_
  by_cases hj : j < n
  · rw [seen_at _ hj]
    have e : hasId (s ++ [x]) (j : Int) = (hasId s (j : Int) || x.id == (j : Int)) := by
      unfold hasId
      simp
    rw [e]
    by_cases hji : i = j
    · subst hji
      rw [List.getElem?_set_self (by unfold seenL; simpa using hi), hx]
      simp
    · rw [List.getElem?_set_ne hji, seen_at _ hj]
      have : (x.id == (j : Int)) = false := by
        rw [hx]
        simp only [beq_eq_false_iff_ne, ne_eq]
        omega
      rw [this, Bool.or_false]
  · rw [List.getElem?_eq_none (by unfold seenL; simp; omega), List.getElem?_eq_none (by unfold seenL; simp; omega)]
theorem make_bools (n : Nat) (hn : n ≤ 1000) (w : World) : ∃ W', (Instr.makeSlice 45 (.int .i64 (n : Int)) (.int .i64 (n : Int))).run Try.prog w = .ok (.slice (some ⟨w.heap.size, 0, none⟩) n n) W' ∧
    Sl W' 1 (.slice (some ⟨w.heap.size, 0, none⟩) n n) n (List.replicate n (.bool false)) ∧ Below w.heap.size w W' := by
  obtain ⟨i, hi, hz0, hz1, hz2⟩ : ∃ i, Try.prog.info? 4 = some i ∧ i.zero = some (.bool false) ∧ i.size = 1 ∧ i.bytes = 1 := by
    have h : (Try.prog.info? 4).map (fun i => (i.zero, i.size, i.bytes)) = some (some (.bool false), 1, 1) := by kernel_rfl
    cases hi : Try.prog.info? 4 with
    | none => rw [hi] at h; cases h
    | some i =>
      rw [hi] at h
      simp only [Option.map_some, Option.some.injEq, Prod.mk.injEq] at h
      exact ⟨i, rfl, h.1, h.2.1, h.2.2⟩
  obtain ⟨W', hr, ho, hg⟩ := run_make_full (P := Try.prog) w w.heap.size 45 4 i (.bool false) 1 Try.underlying45 hi hz0 hz1 .i64 .i64 n (by rw [hz2]; omega) (by unfold maxLen; omega) (Nat.le_refl _)
  refine ⟨W', hr, ?_, (Below.refl _ w).grown hg (Nat.le_refl _) (fun g hg => by simp at hg)⟩
  have hs := Sl.of_own ho
  have hx : (madeCells (Value.bool false).cells (n * 1)).toList = List.replicate n (.bool false) := by
    rw [Nat.mul_one]
    show (madeCells #[Value.bool false] n).toList = _
    rw [toList_madeCells_one]
  rw [hx] at hs
  exact hs
/-- What stands in WheelOrder's rounds: gs is what has come (n of F). -/
structure WO (w wr : World) (g mb N : Nat) (v F : List Th) (n : Nat) (A : Option Addr) (c : Nat) : Prop where
  lw : LW (fun b => b < w.heap.size ∨ (Value.slice A n c).ownBlock = some b) wr g mb N v
  nl : n ≤ F.length
  sl : Sl wr 1 (.slice A n c) n ((F.take n).map idV)
  ow : ∀ q, (Value.slice A n c).ownBlock = some q → w.heap.size ≤ q
  kp : KeepK (fun b => b < w.heap.size) w wr
theorem WO.turn {w wr w' : World} {g mb N M : Nat} {v v' F : List Th} {n : Nat} {A : Option Addr} {c : Nat} (h : WO w wr g mb N v F n A c) (h1 : LW (fun b => b < w.heap.size ∨ (Value.slice A n c).ownBlock = some b) w' g mb M v') (hk : KeepK (fun b => b < w.heap.size ∨ (Value.slice A n c).ownBlock = some b) wr w') : WO w w' g mb M v' F n A c :=
  ⟨h1, h.nl, Sl.keepK h.sl hk fun q hq => .inr hq, h.ow, h.kp.trans (KeepK.mono hk fun b hb => .inl hb)⟩
theorem WO.grow {w wr w9 : World} {g mb N : Nat} {v F : List Th} {n : Nat} {A A3 : Option Addr} {c c3 : Nat} (h : WO w wr g mb N v F n A c) {x : Th} (hx : F[n]? = some x) {o : Obj}
    (hs3 : Sl w9 1 (.slice A3 (n + 1) c3) (n + 1) ((F.take n).map idV ++ [.int .i64 x.id])) (hg3 : (wr.alloc o).grownBy w9 (Value.slice A n c).ownBlock)
    (hv3 : (Value.slice A3 (n + 1) c3).ownBlock = (Value.slice A n c).ownBlock ∨ (Value.slice A3 (n + 1) c3).ownBlock = some (wr.alloc o).heap.size) :
    WO w w9 g mb N v F (n + 1) A3 c3 ∧ KeepK (fun b => b < wr.heap.size ∧ (Value.slice A n c).ownBlock ≠ some b) wr w9 := by
  have hn : n < F.length := (List.getElem?_eq_some_iff.1 hx).1
  have hk : KeepK (fun b => b < wr.heap.size ∧ (Value.slice A n c).ownBlock ≠ some b) wr w9 :=
    ((KeepK.refl _ wr).alloc (fun i hi => hi.1) o).grown hg3 (fun i hi => by have := hi.1; simp; omega) (fun i hi e => hi.2 e.symm)
  have hz := h.kp.size
  have ho : ∀ p, (Value.slice A3 (n + 1) c3).ownBlock = some p → (Value.slice A n c).ownBlock = some p ∨ wr.heap.size ≤ p := fun p hp => by
    rcases hv3 with e | e
    · exact .inl (e ▸ hp)
    · rw [e] at hp
      injection hp with hp
      exact .inr (by simp at hp; omega)
  refine ⟨⟨h.lw.far hk ho hs3.lt, by omega, ?_, fun q hq => ?_, h.kp.trans (KeepK.mono hk fun b hb => ⟨by omega, fun e => by have := h.ow b e; omega⟩)⟩, hk⟩
  · rw [List.take_add_one, hx, List.map_append]
    exact hs3
  · rcases ho q hq with e | e
    · exact h.ow q e
    · omega
theorem WO.more {w wr : World} {g mb N : Nat} {v F : List Th} {n : Nat} {A : Option Addr} {c : Nat} (h : WO w wr g mb N v F n A c) (hn : n = F.length) (G : List Th) : WO w wr g mb N v (F ++ G) n A c := by
  refine ⟨h.lw, by rw [List.length_append]; omega, ?_, h.ow, h.kp⟩
  have := h.sl
  rw [hn, List.take_length] at this
  rw [hn, List.take_left']
  · exact this
  · rfl
theorem WO.below {w wr w' : World} {g mb N : Nat} {v F : List Th} {n : Nat} {A : Option Addr} {c : Nat} (h : WO w wr g mb N v F n A c) (hb : Below wr.heap.size wr w') : WO w w' g mb N v F n A c :=
  ⟨(h.lw.below hb).1, h.nl, h.sl.below hb h.sl.lt, h.ow, h.kp.trans (KeepK.of_below hb fun b hb' => Nat.lt_of_lt_of_le hb' h.kp.size)⟩
/-- Beside it the answer that is gone through. -/
def WA (w wr : World) (g mb N : Nat) (v F : List Th) (n : Nat) (A : Option Addr) (c : Nat) (P : List Th) (A3 : Option Addr) (c3 : Nat) : Prop :=
  WO w wr g mb N v F n A c ∧ Sl wr 1 (.slice A3 P.length c3) P.length (P.map idV) ∧ ∀ a b, (Value.slice A n c).ownBlock = some a → (Value.slice A3 P.length c3).ownBlock = some b → a ≠ b
theorem WA.below {w wr w' : World} {g mb N : Nat} {v F P : List Th} {n : Nat} {A A3 : Option Addr} {c c3 : Nat} (h : WA w wr g mb N v F n A c P A3 c3) (hb : Below wr.heap.size wr w') : WA w w' g mb N v F n A c P A3 c3 :=
  ⟨h.1.below hb, h.2.1.below hb h.2.1.lt, h.2.2⟩
theorem WA.grow {w wr w9 : World} {g mb N : Nat} {v F P : List Th} {n : Nat} {A A3 A4 : Option Addr} {c c3 c4 : Nat} (h : WA w wr g mb N v F n A c P A3 c3) {x : Th} {i : Nat} (hx : F[n]? = some x) (hi : x.id = (i : Int)) {o : Obj}
    (hs3 : Sl w9 1 (.slice A4 (n + 1) c4) (n + 1) ((F.take n).map idV ++ [.int .i64 (i : Int)])) (hg3 : (wr.alloc o).grownBy w9 (Value.slice A n c).ownBlock)
    (hv3 : (Value.slice A4 (n + 1) c4).ownBlock = (Value.slice A n c).ownBlock ∨ (Value.slice A4 (n + 1) c4).ownBlock = some (wr.alloc o).heap.size) : WA w w9 g mb N v F (n + 1) A4 c4 P A3 c3 := by
  rw [← hi] at hs3
  obtain ⟨k1, k2⟩ := h.1.grow hx hs3 hg3 hv3
  refine ⟨k1, h.2.1.keepK k2 fun b hb => ⟨h.2.1.lt b hb, fun e => h.2.2 b b e hb rfl⟩, fun a b ha hb => ?_⟩
  rcases hv3 with e | e
  · exact h.2.2 a b (e ▸ ha) hb
  · rw [e] at ha
    injection ha with ha
    have := h.2.1.lt b hb
    simp at ha
    omega
theorem WO.of_nil {w wr : World} {g mb N : Nat} {v F : List Th} {A : Option Addr} {c : Nat} (h : WO w wr g mb N v F 0 A c) : WO w wr g mb N v [] 0 A c := ⟨h.lw, Nat.le_refl _, h.sl, h.ow, h.kp⟩
theorem take_last {F : List Th} {n : Nat} (h0 : 0 < n) (hn : n ≤ F.length) : (F.take n)[n - 1]? = F[n - 1]? := by
  rw [List.getElem?_take]
  split
  · rfl
  · omega
theorem sorted_at {F : List Th} (h : F.Pairwise fun a b => a.t ≤ b.t) {n : Nat} (h0 : 0 < n) {x y : Th} (hx : F[n]? = some x) (hy : F[n - 1]? = some y) : y.t ≤ x.t := by
  obtain ⟨a, rfl⟩ := List.getElem?_eq_some_iff.1 hx
  obtain ⟨b, rfl⟩ := List.getElem?_eq_some_iff.1 hy
  exact List.pairwise_iff_getElem.1 h (n - 1) n b a (by omega)
theorem nodup_at {F : List Th} (h : (F.map Th.id).Nodup) {k : Nat} {x : Th} (hx : F[k]? = some x) : hasId (F.take k) x.id = false := by
  rw [Bool.eq_false_iff]
  intro hh
  obtain ⟨y, hy, e⟩ := (hasId_iff _ _).1 hh
  obtain ⟨j, hj, hyj⟩ := List.mem_iff_getElem.1 hy
  obtain ⟨a, ha⟩ := List.getElem?_eq_some_iff.1 hx
  have hjk : j < k := by simp at hj; omega
  have hjl : j < F.length := by omega
  have := List.pairwise_iff_getElem.1 h j k (by simpa using hjl) (by simpa using a) hjk
  rw [List.getElem_map, List.getElem_map, ha] at this
  rw [List.getElem_take] at hyj
  rw [hyj] at this
  exact this e
end Go.Proofs.Ytkdijafnakpfhaa
