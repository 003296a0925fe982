/- The reference's queue: Next, walked. Conditions: none. -/
import Derived.Test.YtkdfbmbccopchaaRef44N
namespace Go.Proofs.Ytkdfbmbccopchaa
open Go.RowKit Go.Lib

def RNextPost (room each : Int) (K : Nat → Prop) (cl : Cl) (w : World) (e : Ending) (w' : World) : Prop :=
  ∃ (A : Option Addr) (n c : Nat) (rs : Rw), e = .returned (.tuple #[.agg #[.int .i64 room, .int .i64 each, .slice A n c], .int .u32 (nextQ cl).2.1, .int .i64 (nextQ cl).2.2.1, .bool (nextQ cl).2.2.2]) ∧ RQ w' (fun i => K i ∨ w.heap.size ≤ i) (.slice A n c) n rs ∧ clOf rs = (nextQ cl).1 ∧ Below w.heap.size w w'

set_option maxRecDepth 100000 in
set_option maxHeartbeats 2000000 in
theorem rNext_none (room each : Int) (A : Option Addr) (c : Nat) (K : Nat → Prop) (w : World) (hR : RQ w K (.slice A 0 c) 0 []) :
    Calls Try.prog 18 #[.agg #[.int .i64 room, .int .i64 each, .slice A 0 c]] w (RNextPost room each K [] w) := by
  have HR := Lib.hid hR
  clear hR
  go_enter Try.func18, Try.ntmps18
  go_wp2_with (fail)
  (try simp only [Exit.inBlock, Exit.then])
  refine bodyPost_ret (res_cell_tmp4 rfl _ _ (w.heap.size + 1) 40 #[.int .i64 room, .int .i64 each, .slice A 0 c] _ rfl (heap_alloc2_new _ _ _) Try.underlying40 rfl agg_queue) rfl ?_
  have hb := ((Below.refl w.heap.size w).alloc (Nat.le_refl _) (.cells #[.int .i64 room, .int .i64 each, .slice A 0 c] 40)).alloc (by simp) (.cells #[.int .i64 room, .int .i64 each, .slice A 0 c] 40)
  exact ⟨A, 0, c, [], rfl, ⟨rfl, (HR.out.s.alloc _).alloc _, fun i hi => .inl (HR.out.own i hi), fun q hq => by cases hq⟩, rfl, hb⟩

theorem fin_long {a x : Int} {l : List Int} {t : Rw} {v v' : Value} (h : l ≠ []) : clOf (t ++ [((a, l), v')]) = (nextQ (clOf (((a, x :: l), v) :: t))).1 := by
  cases l with
  | nil => exact absurd rfl h
  | cons y ys => simp [clOf, nextQ]
theorem fin4 {w w3 w4 : World} {n L : Nat} {a : Int} {xs ys : List Value} {A3 A4 : Option Addr} {c3 c4 : Nat} {TC TI : TypeId} {A0 : Value}
    (hs4 : Sl w4 1 (.slice A4 (L - 1) c4) (L - 1) xs) (hk4 : KeepK (fun i => i < w3.heap.size) w3 w4)
    (hv4 : (Value.slice A4 (L - 1) c4).ownBlock = (Value.slice (some ⟨w3.heap.size, 0, none⟩) 0 0).ownBlock ∨ (Value.slice A4 (L - 1) c4).ownBlock = some (w3.drew.alloc (.cells #[] TI)).heap.size)
    (h5 : Sl (w4.alloc (.cells #[.int .u32 a, .slice A4 (L - 1) c4] TC)) 2 (.slice A3 (n - 1) c3) (n - 1) ys) (h3 : w.heap.size + 4 ≤ w3.heap.size)
    (m0 : w3.cell? ⟨w.heap.size + 1 + 1, 0, none⟩ = some (.int .u32 a)) (m1 : w3.cell? ⟨w.heap.size + 1 + 1, 1, none⟩ = some A0) :
    Sl w4 1 (.slice A4 (L - 1) c4) (L - 1) xs ∧ KeepK (fun i => i < w3.heap.size) w3 w4 ∧
    ((Value.slice A4 (L - 1) c4).ownBlock = (Value.slice (some ⟨w3.heap.size, 0, none⟩) 0 0).ownBlock ∨ (Value.slice A4 (L - 1) c4).ownBlock = some (w3.drew.alloc (.cells #[] TI)).heap.size) ∧
    Sl (w4.alloc (.cells #[.int .u32 a, .slice A4 (L - 1) c4] TC)) 2 (.slice A3 (n - 1) c3) (n - 1) ys ∧
    (w4.cell? ⟨w.heap.size + 1 + 1, 0, none⟩ = some (.int .u32 a) ∧ w4.cell? ⟨w.heap.size + 1 + 1, 1, none⟩ = some A0) ∧
    ((w4.alloc (.cells #[.int .u32 a, .slice A4 (L - 1) c4] TC)).cell? ⟨w.heap.size + 1 + 1, 0, none⟩ = some (.int .u32 a) ∧ (w4.alloc (.cells #[.int .u32 a, .slice A4 (L - 1) c4] TC)).cell? ⟨w.heap.size + 1 + 1, 1, none⟩ = some A0) := by
  have hb : w.heap.size + 1 + 1 < w3.heap.size := by omega
  have e0 := (hk4.cell (p := ⟨w.heap.size + 1 + 1, 0, none⟩) hb).trans m0
  have e1 := (hk4.cell (p := ⟨w.heap.size + 1 + 1, 1, none⟩) hb).trans m1
  have hb4 : w.heap.size + 1 + 1 < w4.heap.size := Nat.lt_of_lt_of_le hb hk4.size
  exact ⟨hs4, hk4, hv4, h5, ⟨e0, e1⟩, (World.cell?_alloc_lt _ _ _ hb4).trans e0, (World.cell?_alloc_lt _ _ _ hb4).trans e1⟩
theorem fin5 {w w3 w4 w5 : World} {n L : Nat} {a : Int} {l : List Int} {t : Rw} {A3 A4 : Option Addr} {c3 c4 : Nat} {v5 : Value} {T1 T2 T3 TC TI : TypeId} {q1 q2 : Array Value} {A0 : Value}
    (hn : n = t.length + 1) (hL : l.length + 1 = L) (k1 : Blk w3 w.heap.size T1 q1) (k2 : Blk w3 (w.heap.size + 1) T2 q2) (k3 : Blk w3 (w.heap.size + 1 + 1) T3 #[.int .u32 a, A0])
    (k4 : KeepK (fun i => i < w.heap.size) w w3) (k5 : w.heap.size + 4 ≤ w3.heap.size) (hs4 : Sl w4 1 (.slice A4 (L - 1) c4) (L - 1) (l.map i64V)) (hk4 : KeepK (fun i => i < w3.heap.size) w3 w4)
    (hv4 : (Value.slice A4 (L - 1) c4).ownBlock = (Value.slice (some ⟨w3.heap.size, 0, none⟩) 0 0).ownBlock ∨ (Value.slice A4 (L - 1) c4).ownBlock = some (w3.drew.alloc (.cells #[] TI)).heap.size)
    (hs5 : Sl w5 2 v5 (n - 1 + 1) (flatR t ++ [.int .u32 a, .slice A4 (L - 1) c4])) (hg5 : (w4.alloc (.cells #[.int .u32 a, .slice A4 (L - 1) c4] TC)).grownBy w5 (Value.slice A3 (n - 1) c3).ownBlock)
    (hv5 : v5.ownBlock = (Value.slice A3 (n - 1) c3).ownBlock ∨ v5.ownBlock = some (w4.alloc (.cells #[.int .u32 a, .slice A4 (L - 1) c4] TC)).heap.size) (ho3 : ∀ i, (Value.slice A3 (n - 1) c3).ownBlock = some i → w.heap.size + 3 ≤ i ∧ i < w3.heap.size) :
    ∃ A5 c5, v5 = .slice A5 n c5 ∧ (Sl w5 2 (.slice A5 n c5) n (flatR (t ++ [((a, l), .slice A4 (L - 1) c4)])) ∧ (Sl w5 1 (.slice A4 (L - 1) c4) l.length (l.map i64V) ∧ (∀ i, (Value.slice A4 (L - 1) c4).ownBlock = some i → w.heap.size + 3 ≤ i)) ∧
      (∀ i, (Value.slice A5 n c5).ownBlock = some i → w.heap.size + 3 ≤ i) ∧ Blk w5 w.heap.size T1 q1 ∧ Blk w5 (w.heap.size + 1) T2 q2 ∧ Blk w5 (w.heap.size + 1 + 1) T3 #[.int .u32 a, A0] ∧ KeepK (fun i => i < w.heap.size) w w5 ∧ w.heap.size + 4 ≤ w5.heap.size ∧
      (w5.cell? ⟨w.heap.size + 1 + 1, 0, none⟩ = some (.int .u32 a) ∧ w5.cell? ⟨w.heap.size + 1 + 1, 1, none⟩ = some A0)) := by
  have hz4 := hk4.size
  have e1 : n - 1 + 1 = n := by omega
  have e2 : L - 1 = l.length := by omega
  have hv4' : ∀ i, (Value.slice A4 (L - 1) c4).ownBlock = some i → w3.heap.size ≤ i := fun i hi => by
    rcases hv4 with e | e
    · have : i = w3.heap.size := by rw [hi] at e; simpa [Value.ownBlock] using e
      omega
    · have : i = w3.heap.size + 1 := by rw [hi] at e; simpa using e
      omega
  have hK : KeepK (fun i => i < w3.heap.size ∧ (Value.slice A3 (n - 1) c3).ownBlock ≠ some i) w3 w5 :=
    ((hk4.mono (fun i hi => hi.1)).alloc (fun i hi => by have := hi.1; omega) _).grown hg5 (fun i hi => by have := hi.1; simp; omega) (fun i hi e => hi.2 e.symm)
  have hK3 : KeepK (fun i => i < w.heap.size + 3) w3 w5 := hK.mono fun i hi => ⟨by have : i < w.heap.size + 3 := hi; omega, fun e => by have := (ho3 i e).1; have : i < w.heap.size + 3 := hi; omega⟩
  rw [e1] at hs5
  obtain ⟨A5, c5, rfl, _, _⟩ := hs5.shape
  have b3 := k3.keepK hK3 (by show w.heap.size + 1 + 1 < w.heap.size + 3; omega)
  refine ⟨A5, c5, rfl, ?_, ⟨?_, fun i hi => by have := hv4' i hi; omega⟩, fun i hi => ?_, k1.keepK hK3 (by show w.heap.size < w.heap.size + 3; omega), k2.keepK hK3 (by show w.heap.size + 1 < w.heap.size + 3; omega), b3,
    k4.trans (hK3.mono fun i hi => by have : i < w.heap.size := hi; show i < _; omega), by have := hK3.size; omega, b3.cell 0, b3.cell 1⟩
  · rw [flatR_app]; exact hs5
  · rw [← e2]
    have hg' := hg5.size
    refine (hs4.alloc (.cells #[.int .u32 a, .slice A4 (L - 1) c4] TC)).keep hg' fun g hg => hg5.block g (by have := hs4.lt g hg; simp; omega) (fun e => ?_)
    have := (ho3 g e.symm).2
    have := hv4' g hg
    omega
  · rcases hv5 with e | e
    · exact (ho3 i (e.symm.trans hi)).1
    · rw [hi] at e
      have : i = w4.heap.size + 1 := by simpa using e
      omega

set_option maxRecDepth 100000 in
set_option maxHeartbeats 4000000 in
theorem rNext_some (room each : Int) (A : Option Addr) (n c : Nat) (K : Nat → Prop) (a x : Int) (l : List Int) (v : Value) (t : Rw) (w : World) (hR : RQ w K (.slice A n c) n (((a, x :: l), v) :: t)) (hn : n ≤ 1000000) (hl : l.length ≤ 1000000) :
    Calls Try.prog 18 #[.agg #[.int .i64 room, .int .i64 each, .slice A n c]] w (RNextPost room each K (clOf (((a, x :: l), v) :: t)) w) := by
  obtain ⟨i0, hi0, hz0, hz1, hz2⟩ := info_parts info_client
  obtain ⟨j0, hj0, hy0, hy1, hy2⟩ := info_parts info_int
  have hnt : n = t.length + 1 := hR.len.symm
  obtain ⟨L, hL⟩ : ∃ L, l.length + 1 = L := ⟨_, rfl⟩
  have hv := (hR.each ((a, x :: l), v) (by simp)).1
  have hvo := (hR.each ((a, x :: l), v) (by simp)).2
  dsimp only at hv hvo
  rw [show (x :: l).length = L from hL] at hv
  obtain ⟨vg, vc, rfl, hvg, hvc1, hvc2, hvcell⟩ := hv.form (by omega)
  obtain ⟨g, cap, hA, hgl, hcc1, hcc2, hcell⟩ := hR.s.form (by omega)
  injection hA with hA _ hc
  subst hA hc
  have e0 : w.cell? ⟨g, 0, none⟩ = some (.int .u32 a) := hcell 0 _ rfl
  have e1 : w.cell? ⟨g, 1, none⟩ = some (.slice (some ⟨vg, 0, none⟩) L vc) := hcell 1 _ rfl
  have e2 : w.cell? ⟨vg, 0, none⟩ = some (.int .i64 x) := hvcell 0 _ rfl
  obtain ⟨A5, hr5, hA5⟩ := tail_r g n c (by omega) hcc1 (by unfold maxLen at hcc2; omega)
  obtain ⟨A6, hr6, hA6⟩ := tail_i vg L vc (by omega) hvc1 (by unfold maxLen at hvc2; omega)
  have hn0 : ((n : Int) == 0) = false := by simp; omega
  have hnI : (n : Int) ≤ 1000000 := by omega
  have hn0I : (0 : Int) < (n : Int) := by omega
  have hLI : (L : Int) ≤ 1000001 := by omega
  have hLp : (0 : Int) < (L : Int) := by omega
  have hone := flatR_one hR.each
  have hS3 := ((hR.s.alloc (.cells #[.int .i64 room, .int .i64 each, .slice (some ⟨g, 0, none⟩) n c] 40)).alloc (.cells #[.int .i64 0, .int .i64 0, .slice none 0 0] 40)).alloc (.cells #[.int .u32 a, .slice (some ⟨vg, 0, none⟩) L vc] 100)
  have HSE := Lib.hid (sl_empty_any (((w.alloc (.cells #[.int .i64 room, .int .i64 each, .slice (some ⟨g, 0, none⟩) n c] 40)).alloc (.cells #[.int .i64 0, .int .i64 0, .slice none 0 0] 40)).alloc (.cells #[.int .u32 a, .slice (some ⟨vg, 0, none⟩) L vc] 100)) 100 2 (w.heap.size + 3) (by simp))
  have HSR := Lib.hid (src_tail_any (P := Try.prog) Try.underlying38 (hS3.alloc (.cells #[] 100)) (by omega) hone hA5)
  have HR := Lib.hid (And.intro hR (And.intro hv (And.intro hvo (And.intro hnt (And.intro hL hA6)))))
  have HNL := Lib.hid (And.intro hn hl)
  have hkb : ∀ w3, (((((w.alloc (.cells #[.int .i64 room, .int .i64 each, .slice (some ⟨g, 0, none⟩) n c] 40)).alloc (.cells #[.int .i64 0, .int .i64 0, .slice none 0 0] 40)).alloc (.cells #[.int .u32 a, .slice (some ⟨vg, 0, none⟩) L vc] 100))).alloc (.cells #[] 100)).grownBy w3 (Value.slice (some ⟨w.heap.size + 3, 0, none⟩) 0 0).ownBlock →
      Blk w3 w.heap.size 40 #[.int .i64 room, .int .i64 each, .slice (some ⟨g, 0, none⟩) n c] ∧ Blk w3 (w.heap.size + 1) 40 #[.int .i64 0, .int .i64 0, .slice none 0 0] ∧ Blk w3 (w.heap.size + 1 + 1) 100 #[.int .u32 a, .slice (some ⟨vg, 0, none⟩) L vc] ∧ KeepK (fun i => i < w.heap.size) w w3 ∧ w.heap.size + 4 ≤ w3.heap.size := fun w3 hg => by
    have hne : ∀ i, i < w.heap.size + 3 → some i ≠ (Value.slice (some ⟨w.heap.size + 3, 0, none⟩) 0 0).ownBlock := fun i hi e => by
      have : i = w.heap.size + 3 := by simpa [Value.ownBlock] using e
      omega
    refine ⟨((((Blk.new w _ _).alloc _).alloc _).alloc _).grown hg (hne _ (by omega)), ?_, ?_, ?_, ?_⟩
    · have h : Blk _ _ _ _ := heap_alloc2_new w (.cells #[.int .i64 room, .int .i64 each, .slice (some ⟨g, 0, none⟩) n c] 40) (.cells #[.int .i64 0, .int .i64 0, .slice none 0 0] 40)
      exact ((h.alloc _).alloc _).grown hg (hne _ (by omega))
    · have h : Blk _ _ _ _ := heap_alloc2_new (w.alloc (.cells #[.int .i64 room, .int .i64 each, .slice (some ⟨g, 0, none⟩) n c] 40)) (.cells #[.int .i64 0, .int .i64 0, .slice none 0 0] 40) (.cells #[.int .u32 a, .slice (some ⟨vg, 0, none⟩) L vc] 100)
      rw [show (w.alloc (.cells #[.int .i64 room, .int .i64 each, .slice (some ⟨g, 0, none⟩) n c] 40)).heap.size = w.heap.size + 1 by simp] at h
      exact (h.alloc _).grown hg (hne _ (by omega))
    · exact (((((KeepK.refl (fun i => i < w.heap.size) w).alloc (fun i hi => hi) _).alloc (fun i hi => by simp; omega) _).alloc (fun i hi => by simp; omega) _).alloc (fun i hi => by simp; omega) _).grown hg (fun i hi => by simp; omega) (fun i hi => hne i (by omega))
    · have := hg.size; simp at this; omega
  have HKB := Lib.hid hkb
  clear hkb
  clear hR hv hvo hS3 hone hA5 hA6 hcell hvcell hnt hL hn hl
  go_enter Try.func18, Try.ntmps18
  go_wp2_with (at_builtin; go_must (refine wpList_append_sl _ rfl (.tmp 17) (.tmp 20) 38 38 rfl 100 i0 (.agg #[.int .u32 0, .slice none 0 0]) 2 32 Try.underlying38 hi0 hz0 hz1 hz2 rfl (.slice (some ⟨w.heap.size + 3, 0, none⟩) 0 0) 0 [] rfl HSE.out _ rfl (n - 1) _ HSR.out (by have := HNL.out; unfold maxLen; omega) (by have := HNL.out; omega) ?_); intro v3 w3 hs3 hg3 hv3; rw [Nat.zero_add] at hs3; obtain ⟨A3, c3, rfl, hc3, hm3⟩ := hs3.shape; obtain ⟨k1, k2, k3, k4, k5⟩ := HKB.out w3 hg3; have m0 := k3.cell 0; have m1 := k3.cell 1; have q0 := k1.cell 0; have q1 := k1.cell 1; have q2 := k1.cell 2; have p2 := k1.frozen 2; have H3 := Lib.hid (And.intro hs3 (And.intro hg3 (And.intro hv3 (And.intro k1 (And.intro k2 (And.intro k3 (And.intro k4 k5))))))); clear hs3 hg3 hv3 hc3 hm3 k1 k2 k3 k4 k5)
  · have hsz3 : w.heap.size + 4 ≤ w3.heap.size := H3.out.2.2.2.2.2.2.2
    have hk3 := H3.out.2.2.2.2.2.2.1
    have hown3 : ∀ i, (Value.slice A3 (n - 1) c3).ownBlock = some i → w.heap.size + 3 ≤ i ∧ i < w3.heap.size := fun i hi => ⟨own_from (v := .slice (some ⟨w.heap.size + 3, 0, none⟩) 0 0) (fun i hi => by
      have : w.heap.size + 3 = i := by simpa [Value.ownBlock] using hi
      omega) (by simp) H3.out.2.2.1 i hi, H3.out.1.lt i hi⟩
    have hvi := (HR.out.2.1.keepK hk3 (fun i hi => HR.out.2.1.lt i hi)).drew.alloc (.cells #[] 3)
    have hLN : 1 ≤ L := by omega
    have HSR4 := Lib.hid (src_tail_any (P := Try.prog) Try.underlying62 hvi hLN (fun u hu => by obtain ⟨z, _, rfl⟩ := List.mem_map.1 hu; rfl) HR.out.2.2.2.2.2)
    have HSE4 := Lib.hid (sl_empty_any w3.drew 3 1 w3.heap.size rfl)
    have hal : ∀ (W : World) (o : Obj) (i : Nat), w.heap.size + 1 + 1 < W.heap.size → W.cell? ⟨w.heap.size + 1 + 1, i, none⟩ = w3.cell? ⟨w.heap.size + 1 + 1, i, none⟩ → (W.alloc o).cell? ⟨w.heap.size + 1 + 1, i, none⟩ = w3.cell? ⟨w.heap.size + 1 + 1, i, none⟩ := fun W o i h e => (World.cell?_alloc_lt _ _ _ h).trans e
    have k4 : ∀ w4, (w3.drew.alloc (.cells #[] 3)).grownBy w4 (Value.slice (some ⟨w3.heap.size, 0, none⟩) 0 0).ownBlock → KeepK (fun i => i < w3.heap.size) w3 w4 := fun w4 hg4 =>
      (((KeepK.refl (fun i => i < w3.heap.size) w3).drew).alloc (fun i hi => hi) _).grown hg4 (fun i hi => by have : i < w3.heap.size := hi; simp; omega) (fun i hi e => by
        have : i = w3.heap.size := by simpa [Value.ownBlock] using e
        have : i < w3.heap.size := hi
        omega)
    have k5 : ∀ (w4 : World) (A4 : Option Addr) (c4 : Nat), KeepK (fun i => i < w3.heap.size) w3 w4 → Sl (w4.alloc (.cells #[.int .u32 a, .slice A4 (L - 1) c4] 100)) 2 (.slice A3 (n - 1) c3) (n - 1) (flatR t) := fun w4 A4 c4 hk4 => by
      have h := H3.out.1.keepK hk4 (fun i hi => H3.out.1.lt i hi)
      exact h.alloc _
    have K45 := Lib.hid (And.intro k4 (And.intro k5 (And.intro hal (And.intro hown3 hsz3))))
    have HS0 := Lib.hid (And.intro m0 (And.intro m1 (And.intro (hal w3.drew (.cells #[] 3) 0 (by show _ < w3.heap.size; omega) rfl |>.trans m0) (hal w3.drew (.cells #[] 3) 1 (by show _ < w3.heap.size; omega) rfl |>.trans m1))))
    have HSRC := Lib.hid (fun (w4 : World) (A4 : Option Addr) (c4 : Nat) => src_two (P := Try.prog) Try.underlying38 w4 100 (.int .u32 a) (.slice A4 (L - 1) c4) rfl rfl w4.heap.size rfl)
    have hb1 : L - 1 ≤ 1000000 := by have := HNL.out.2; have := HR.out.2.2.2.2.1; omega
    have hb2 : n - 1 + 1 ≤ 1000001 := by have := HNL.out.1; omega
    have HBB := Lib.hid (And.intro hb1 hb2)
    clear hb1 hb2 k4 k5 hal hown3 hsz3 hk3 hvi hLN
    go_region_held3 (fun w' => w'.cell? ⟨w.heap.size + 1 + 1, 0, none⟩ = some (.int .u32 a) ∧ w'.cell? ⟨w.heap.size + 1 + 1, 1, none⟩ = some (.slice (some ⟨vg, 0, none⟩) L vc)) (first | exact H5.out.2.2.2.2.2.2.2.2 | exact H4.out.2.2.2.2.2 | exact H4.out.2.2.2.2.1 | exact ⟨HS0.out.2.2.1, HS0.out.2.2.2⟩ | exact ⟨HS0.out.1, HS0.out.2.1⟩)
      (first
        | (refine step_append_sl _ (by rfl) (.tmp 29) (.tmp 32) 62 62 rfl 3 j0 (.int .i64 0) 1 8 Try.underlying62 hj0 hy0 hy1 hy2 rfl (.slice (some ⟨w3.heap.size, 0, none⟩) 0 0) 0 [] rfl HSE4.out (.slice A6 (L - 1) (vc - 1)) rfl (L - 1) _ HSR4.out (by have := HBB.out.1; unfold maxLen; omega) (by have := HBB.out.1; omega) ?_; intro v4 w4 hs4 hg4 hv4; simp only [Nat.zero_add, List.nil_append] at hs4; obtain ⟨A4, c4, rfl, hc4, hm4⟩ := hs4.shape; have hk4 := K45.out.1 w4 hg4; have H4 := Lib.hid (fin4 (TC := 100) hs4 hk4 hv4 (K45.out.2.1 w4 A4 c4 hk4) K45.out.2.2.2.2 m0 m1); clear hs4 hg4 hv4 hk4 hc4 hm4)
        | (refine step_append_sl _ (by rfl) (.tmp 26) (.tmp 35) 38 38 rfl 100 i0 (.agg #[.int .u32 0, .slice none 0 0]) 2 32 Try.underlying38 hi0 hz0 hz1 hz2 rfl (.slice A3 (n - 1) c3) (n - 1) _ rfl H4.out.2.2.2.1 (.slice (some ⟨w4.heap.size, 0, none⟩) 1 1) rfl 1 [.int .u32 a, .slice A4 (L - 1) c4] (HSRC.out w4 A4 c4) (by have := HBB.out.2; unfold maxLen; omega) (by have := HBB.out.2; omega) ?_; intro v5 w5 hs5 hg5 hv5; have hh5 := fin5 (l := l) (t := t) HR.out.2.2.2.1 HR.out.2.2.2.2.1 H3.out.2.2.2.1 H3.out.2.2.2.2.1 H3.out.2.2.2.2.2.1 H3.out.2.2.2.2.2.2.1 H3.out.2.2.2.2.2.2.2 H4.out.1 H4.out.2.1 H4.out.2.2.1 hs5 hg5 hv5 K45.out.2.2.2.1; obtain ⟨A5, c5, rfl, h5⟩ := hh5; have H5 := Lib.hid h5; clear hs5 hg5 hv5 h5))
    have HC4 := Lib.hid H5.out.2.1
    clear m0 m1 q0 q1 q2 p2
    have m0 := H5.out.2.2.2.2.2.1.cell 0
    have m1 := H5.out.2.2.2.2.2.1.cell 1
    have q0 := H5.out.2.2.2.1.cell 0
    have q1 := H5.out.2.2.2.1.cell 1
    have q2 := H5.out.2.2.2.1.cell 2
    have p2 := H5.out.2.2.2.1.frozen 2
    go_wp2_with (fail)
    obtain ⟨V, hV⟩ : ∃ V, w5.setCell ⟨w.heap.size, 2, none⟩ (.slice A5 n c5) = V := ⟨_, rfl⟩
    have hs0 : w.heap.size < w5.heap.size := by have := H5.out.2.2.2.2.2.2.2; omega
    have hBV : Blk V w.heap.size 40 #[.int .i64 room, .int .i64 each, .slice A5 n c5] := by
      rw [← hV]
      have h := H5.out.2.2.2.1.set_ 2 (.slice A5 n c5)
      simpa using h
    have hCV : Blk V (w.heap.size + 1 + 1) 100 #[.int .u32 a, .slice (some ⟨vg, 0, none⟩) L vc] := by
      rw [← hV]; exact H5.out.2.2.2.2.2.1.far (p := ⟨w.heap.size, 2, none⟩) (by show _ ≠ w.heap.size; omega) _
    have hZV : Blk V (w.heap.size + 1) 40 #[.int .i64 0, .int .i64 0, .slice none 0 0] := by
      rw [← hV]; exact H5.out.2.2.2.2.1.far (p := ⟨w.heap.size, 2, none⟩) (by show _ ≠ w.heap.size; omega) _
    have hKV : KeepK (fun i => i < w.heap.size) w V := by
      rw [← hV]; exact H5.out.2.2.2.2.2.2.1.setCell (p := ⟨w.heap.size, 2, none⟩) (fun i hi => by show i ≠ w.heap.size; omega) _
    have n0 := hBV.cell 0
    have n1 := hBV.cell 1
    have n2 := hBV.cell 2
    have n3 := hCV.cell 0
    have n4 := hCV.cell 1
    have n5 : V.cell? ⟨vg, 0, none⟩ = some (.int .i64 x) := (hKV.cell (p := ⟨vg, 0, none⟩) hvg).trans e2
    have z0 := hZV.cell 0
    have z1 := hZV.cell 1
    have z2 := hZV.cell 2
    have y0 := hZV.frozen 0
    have y1 := hZV.frozen 1
    have y2 := hZV.frozen 2
    rw [hV]
    have HVV := Lib.hid hV
    clear hV m0 m1 q0 q1 q2 p2 e0 e1 e2
    have h8 : ∀ q : Addr, q.block ≠ w.heap.size + 1 → (((V.setCell ⟨w.heap.size + 1, 0, none⟩ (.int .i64 room)).setCell ⟨w.heap.size + 1, 1, none⟩ (.int .i64 each)).setCell ⟨w.heap.size + 1, 2, none⟩ (.slice A5 n c5)).cell? q = V.cell? q := fun q hq => by
      rw [World.cell?_setCell_other _ _ _ _ (fun e => hq (by rw [← e])), World.cell?_setCell_other _ _ _ _ (fun e => hq (by rw [← e])), World.cell?_setCell_other _ _ _ _ (fun e => hq (by rw [← e]))]
    have hS0 := And.intro n0 (And.intro n1 (And.intro n2 (And.intro n3 (And.intro n4 n5))))
    have hS8 := And.intro ((h8 ⟨w.heap.size, 0, none⟩ (by show w.heap.size ≠ _; omega)).trans n0) (And.intro ((h8 ⟨w.heap.size, 1, none⟩ (by show w.heap.size ≠ _; omega)).trans n1) (And.intro ((h8 ⟨w.heap.size, 2, none⟩ (by show w.heap.size ≠ _; omega)).trans n2) (And.intro ((h8 ⟨w.heap.size + 1 + 1, 0, none⟩ (by show w.heap.size + 1 + 1 ≠ _; omega)).trans n3) (And.intro ((h8 ⟨w.heap.size + 1 + 1, 1, none⟩ (by show w.heap.size + 1 + 1 ≠ _; omega)).trans n4) ((h8 ⟨vg, 0, none⟩ (by show vg ≠ _; omega)).trans n5)))))
    have HSS := Lib.hid (And.intro hS0 hS8)
    clear hS0 hS8 h8
    have hBF : Blk ((((V.setCell ⟨w.heap.size + 1, 0, none⟩ (.int .i64 room)).setCell ⟨w.heap.size + 1, 1, none⟩ (.int .i64 each)).setCell ⟨w.heap.size + 1, 2, none⟩ (.slice A5 n c5)).drew) (w.heap.size + 1) 40 #[.int .i64 room, .int .i64 each, .slice A5 n c5] := by
      have h := ((hZV.set_ 0 (.int .i64 room)).set_ 1 (.int .i64 each)).set_ 2 (.slice A5 n c5)
      simp at h
      exact h
    have hown : ∀ i, (Value.slice A5 n c5).ownBlock = some i → w.heap.size + 3 ≤ i := H5.out.2.2.1
    have hKF : KeepK (fun i => i < w.heap.size) w ((((V.setCell ⟨w.heap.size + 1, 0, none⟩ (.int .i64 room)).setCell ⟨w.heap.size + 1, 1, none⟩ (.int .i64 each)).setCell ⟨w.heap.size + 1, 2, none⟩ (.slice A5 n c5)).drew) :=
      (((hKV.setCell (p := ⟨w.heap.size + 1, 0, none⟩) (fun i hi => by show i ≠ w.heap.size + 1; omega) _).setCell (p := ⟨w.heap.size + 1, 1, none⟩) (fun i hi => by show i ≠ w.heap.size + 1; omega) _).setCell (p := ⟨w.heap.size + 1, 2, none⟩) (fun i hi => by show i ≠ w.heap.size + 1; omega) _).drew
    have hSV : Sl V 2 (.slice A5 n c5) n (flatR (t ++ [((a, l), .slice A4 (L - 1) c4)])) := by
      rw [← HVV.out]
      exact H5.out.1.far (p := ⟨w.heap.size, 2, none⟩) (fun g hg => by have := hown g hg; show g ≠ w.heap.size; omega) _
    have hSF : Sl ((((V.setCell ⟨w.heap.size + 1, 0, none⟩ (.int .i64 room)).setCell ⟨w.heap.size + 1, 1, none⟩ (.int .i64 each)).setCell ⟨w.heap.size + 1, 2, none⟩ (.slice A5 n c5)).drew) 2 (.slice A5 n c5) n (flatR (t ++ [((a, l), .slice A4 (L - 1) c4)])) :=
      (((hSV.far (p := ⟨w.heap.size + 1, 0, none⟩) (fun g hg => by have := hown g hg; show g ≠ w.heap.size + 1; omega) _).far (p := ⟨w.heap.size + 1, 1, none⟩) (fun g hg => by have := hown g hg; show g ≠ w.heap.size + 1; omega) _).far (p := ⟨w.heap.size + 1, 2, none⟩) (fun g hg => by have := hown g hg; show g ≠ w.heap.size + 1; omega) _).drew
    have hCV : Sl V 1 (.slice A4 (L - 1) c4) l.length (l.map i64V) := by
      rw [← HVV.out]
      exact HC4.out.1.far (p := ⟨w.heap.size, 2, none⟩) (fun g hg => by have := HC4.out.2 g hg; show g ≠ w.heap.size; omega) _
    have hCF : Sl ((((V.setCell ⟨w.heap.size + 1, 0, none⟩ (.int .i64 room)).setCell ⟨w.heap.size + 1, 1, none⟩ (.int .i64 each)).setCell ⟨w.heap.size + 1, 2, none⟩ (.slice A5 n c5)).drew) 1 (.slice A4 (L - 1) c4) l.length (l.map i64V) :=
      (((hCV.far (p := ⟨w.heap.size + 1, 0, none⟩) (fun g hg => by have := HC4.out.2 g hg; show g ≠ w.heap.size + 1; omega) _).far (p := ⟨w.heap.size + 1, 1, none⟩) (fun g hg => by have := HC4.out.2 g hg; show g ≠ w.heap.size + 1; omega) _).far (p := ⟨w.heap.size + 1, 2, none⟩) (fun g hg => by have := HC4.out.2 g hg; show g ≠ w.heap.size + 1; omega) _).drew
    have HCF := Lib.hid hCF
    clear hCV hCF
    have hl0 : l ≠ [] := fun e => by have := HR.out.2.2.2.2.1; rw [e] at this; have : ¬ 1 < L := by rw [← this]; decide
                                     omega
    have hnt := HR.out.2.2.2.1
    have HFIN := Lib.hid (And.intro hBF (And.intro hown (And.intro hKF (And.intro hSF (And.intro hl0 hnt)))))
    clear hBF hown hKF hSV hSF hl0 hnt
    have hLq : 0 < L := by omega
    go_region_held3 (fun w' => w'.cell? ⟨w.heap.size, 0, none⟩ = some (.int .i64 room) ∧ w'.cell? ⟨w.heap.size, 1, none⟩ = some (.int .i64 each) ∧ w'.cell? ⟨w.heap.size, 2, none⟩ = some (.slice A5 n c5) ∧ w'.cell? ⟨w.heap.size + 1 + 1, 0, none⟩ = some (.int .u32 a) ∧ w'.cell? ⟨w.heap.size + 1 + 1, 1, none⟩ = some (.slice (some ⟨vg, 0, none⟩) L vc) ∧ w'.cell? ⟨vg, 0, none⟩ = some (.int .i64 x)) (first | assumption | exact HSS.out.1 | exact HSS.out.2) (fail)
    all_goals (go_wp2_with (fail))
    all_goals (try simp only [Exit.inBlock, Exit.then])
    all_goals (refine bodyPost_ret (res_cell_tmp4 rfl _ _ (w.heap.size + 1) 40 #[.int .i64 room, .int .i64 each, .slice A5 n c5] _ rfl HFIN.out.1 Try.underlying40 rfl agg_queue) rfl ?_)
    all_goals (refine ⟨A5, n, c5, t ++ [((a, l), .slice A4 (L - 1) c4)], rfl, ⟨by have := HFIN.out.2.2.2.2.2; rw [List.length_append]; simp; omega, HFIN.out.2.2.2.1, fun i hi => .inr (by have := HFIN.out.2.1 i hi; omega), fun q hq => ?_⟩, ?_, HFIN.out.2.2.1.below fun i hi => hi⟩)
    all_goals (first
      | (rcases List.mem_append.1 hq with hq | hq
         · have h := HR.out.1.each q (by simp [hq]); exact ⟨h.1.keepK HFIN.out.2.2.1 (fun i hi => h.1.lt i hi), fun i hi => .inl (h.2 i hi)⟩
         · rw [List.mem_singleton.1 hq]; exact ⟨HCF.out, fun i hi => .inr (by have := HC4.out.2 i hi; omega)⟩)
      | (exact fin_long HFIN.out.2.2.2.2.1))
  · obtain ⟨V, hV⟩ : ∃ V, w3.setCell ⟨w.heap.size, 2, none⟩ (.slice A3 (n - 1) c3) = V := ⟨_, rfl⟩
    have hs0 : w.heap.size < w3.heap.size := by have := H3.out.2.2.2.2.2.2.2; omega
    have hBV : Blk V w.heap.size 40 #[.int .i64 room, .int .i64 each, .slice A3 (n - 1) c3] := by
      rw [← hV]
      have h := H3.out.2.2.2.1.set_ 2 (.slice A3 (n - 1) c3)
      simpa using h
    have hCV : Blk V (w.heap.size + 1 + 1) 100 #[.int .u32 a, .slice (some ⟨vg, 0, none⟩) L vc] := by
      rw [← hV]; exact H3.out.2.2.2.2.2.1.far (p := ⟨w.heap.size, 2, none⟩) (by show _ ≠ w.heap.size; omega) _
    have hZV : Blk V (w.heap.size + 1) 40 #[.int .i64 0, .int .i64 0, .slice none 0 0] := by
      rw [← hV]; exact H3.out.2.2.2.2.1.far (p := ⟨w.heap.size, 2, none⟩) (by show _ ≠ w.heap.size; omega) _
    have hKV : KeepK (fun i => i < w.heap.size) w V := by
      rw [← hV]; exact H3.out.2.2.2.2.2.2.1.setCell (p := ⟨w.heap.size, 2, none⟩) (fun i hi => by show i ≠ w.heap.size; omega) _
    have n0 := hBV.cell 0
    have n1 := hBV.cell 1
    have n2 := hBV.cell 2
    have n3 := hCV.cell 0
    have n4 := hCV.cell 1
    have n5 : V.cell? ⟨vg, 0, none⟩ = some (.int .i64 x) := (hKV.cell (p := ⟨vg, 0, none⟩) hvg).trans e2
    have z0 := hZV.cell 0
    have z1 := hZV.cell 1
    have z2 := hZV.cell 2
    have y0 := hZV.frozen 0
    have y1 := hZV.frozen 1
    have y2 := hZV.frozen 2
    rw [hV]
    have HVV := Lib.hid hV
    clear hV m0 m1 q0 q1 q2 p2 e0 e1 e2
    have h8 : ∀ q : Addr, q.block ≠ w.heap.size + 1 → (((V.setCell ⟨w.heap.size + 1, 0, none⟩ (.int .i64 room)).setCell ⟨w.heap.size + 1, 1, none⟩ (.int .i64 each)).setCell ⟨w.heap.size + 1, 2, none⟩ (.slice A3 (n - 1) c3)).cell? q = V.cell? q := fun q hq => by
      rw [World.cell?_setCell_other _ _ _ _ (fun e => hq (by rw [← e])), World.cell?_setCell_other _ _ _ _ (fun e => hq (by rw [← e])), World.cell?_setCell_other _ _ _ _ (fun e => hq (by rw [← e]))]
    have hS0 := And.intro n0 (And.intro n1 (And.intro n2 (And.intro n3 (And.intro n4 n5))))
    have hS8 := And.intro ((h8 ⟨w.heap.size, 0, none⟩ (by show w.heap.size ≠ _; omega)).trans n0) (And.intro ((h8 ⟨w.heap.size, 1, none⟩ (by show w.heap.size ≠ _; omega)).trans n1) (And.intro ((h8 ⟨w.heap.size, 2, none⟩ (by show w.heap.size ≠ _; omega)).trans n2) (And.intro ((h8 ⟨w.heap.size + 1 + 1, 0, none⟩ (by show w.heap.size + 1 + 1 ≠ _; omega)).trans n3) (And.intro ((h8 ⟨w.heap.size + 1 + 1, 1, none⟩ (by show w.heap.size + 1 + 1 ≠ _; omega)).trans n4) ((h8 ⟨vg, 0, none⟩ (by show vg ≠ _; omega)).trans n5)))))
    have HSS := Lib.hid (And.intro hS0 hS8)
    clear hS0 hS8 h8
    have hBF : Blk ((((V.setCell ⟨w.heap.size + 1, 0, none⟩ (.int .i64 room)).setCell ⟨w.heap.size + 1, 1, none⟩ (.int .i64 each)).setCell ⟨w.heap.size + 1, 2, none⟩ (.slice A3 (n - 1) c3)).drew) (w.heap.size + 1) 40 #[.int .i64 room, .int .i64 each, .slice A3 (n - 1) c3] := by
      have h := ((hZV.set_ 0 (.int .i64 room)).set_ 1 (.int .i64 each)).set_ 2 (.slice A3 (n - 1) c3)
      simp at h
      exact h
    have hown : ∀ i, (Value.slice A3 (n - 1) c3).ownBlock = some i → w.heap.size + 3 ≤ i := own_from (v := .slice (some ⟨w.heap.size + 3, 0, none⟩) 0 0) (fun i hi => by
      have : w.heap.size + 3 = i := by simpa [Value.ownBlock] using hi
      omega) (by simp) H3.out.2.2.1
    have hKF : KeepK (fun i => i < w.heap.size) w ((((V.setCell ⟨w.heap.size + 1, 0, none⟩ (.int .i64 room)).setCell ⟨w.heap.size + 1, 1, none⟩ (.int .i64 each)).setCell ⟨w.heap.size + 1, 2, none⟩ (.slice A3 (n - 1) c3)).drew) :=
      (((hKV.setCell (p := ⟨w.heap.size + 1, 0, none⟩) (fun i hi => by show i ≠ w.heap.size + 1; omega) _).setCell (p := ⟨w.heap.size + 1, 1, none⟩) (fun i hi => by show i ≠ w.heap.size + 1; omega) _).setCell (p := ⟨w.heap.size + 1, 2, none⟩) (fun i hi => by show i ≠ w.heap.size + 1; omega) _).drew
    have hSV : Sl V 2 (.slice A3 (n - 1) c3) (n - 1) (flatR t) := by
      rw [← HVV.out]
      exact H3.out.1.far (p := ⟨w.heap.size, 2, none⟩) (fun g hg => by have := hown g hg; show g ≠ w.heap.size; omega) _
    have hSF : Sl ((((V.setCell ⟨w.heap.size + 1, 0, none⟩ (.int .i64 room)).setCell ⟨w.heap.size + 1, 1, none⟩ (.int .i64 each)).setCell ⟨w.heap.size + 1, 2, none⟩ (.slice A3 (n - 1) c3)).drew) 2 (.slice A3 (n - 1) c3) (n - 1) (flatR t) :=
      (((hSV.far (p := ⟨w.heap.size + 1, 0, none⟩) (fun g hg => by have := hown g hg; show g ≠ w.heap.size + 1; omega) _).far (p := ⟨w.heap.size + 1, 1, none⟩) (fun g hg => by have := hown g hg; show g ≠ w.heap.size + 1; omega) _).far (p := ⟨w.heap.size + 1, 2, none⟩) (fun g hg => by have := hown g hg; show g ≠ w.heap.size + 1; omega) _).drew
    have hl0 : l = [] := List.eq_nil_of_length_eq_zero (by have := HR.out.2.2.2.2.1; omega)
    have hnt := HR.out.2.2.2.1
    have HFIN := Lib.hid (And.intro hBF (And.intro hown (And.intro hKF (And.intro hSF (And.intro hl0 hnt)))))
    clear hBF hown hKF hSV hSF hl0 hnt
    have hLq : 0 < L := by omega
    go_region_held3 (fun w' => w'.cell? ⟨w.heap.size, 0, none⟩ = some (.int .i64 room) ∧ w'.cell? ⟨w.heap.size, 1, none⟩ = some (.int .i64 each) ∧ w'.cell? ⟨w.heap.size, 2, none⟩ = some (.slice A3 (n - 1) c3) ∧ w'.cell? ⟨w.heap.size + 1 + 1, 0, none⟩ = some (.int .u32 a) ∧ w'.cell? ⟨w.heap.size + 1 + 1, 1, none⟩ = some (.slice (some ⟨vg, 0, none⟩) L vc) ∧ w'.cell? ⟨vg, 0, none⟩ = some (.int .i64 x)) (first | assumption | exact HSS.out.1 | exact HSS.out.2) (fail)
    all_goals (go_wp2_with (fail))
    all_goals (try simp only [Exit.inBlock, Exit.then])
    all_goals (refine bodyPost_ret (res_cell_tmp4 rfl _ _ (w.heap.size + 1) 40 #[.int .i64 room, .int .i64 each, .slice A3 (n - 1) c3] _ rfl HFIN.out.1 Try.underlying40 rfl agg_queue) rfl ?_)
    all_goals (refine ⟨A3, n - 1, c3, t, rfl, ⟨by have := HFIN.out.2.2.2.2.2; omega, HFIN.out.2.2.2.1, fun i hi => .inr (by have := HFIN.out.2.1 i hi; omega), fun q hq => ?_⟩, ?_, HFIN.out.2.2.1.below fun i hi => hi⟩)
    all_goals (first
      | (have h := HR.out.1.each q (by simp [hq]); exact ⟨h.1.keepK HFIN.out.2.2.1 (fun i hi => h.1.lt i hi), fun i hi => .inl (h.2 i hi)⟩)
      | (rw [HFIN.out.2.2.2.2.1]; rfl))
end Go.Proofs.Ytkdfbmbccopchaa
