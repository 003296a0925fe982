/- Maps with just so many entries; the table of prefixes of package rate, of which one at most is known; link and unlink there. Conditions: none. The walks of rate.Check, New, Prefix, Hit and Count, where one prefix at most is known. Conditions: none. The walk of rate.Count, where one prefix at most is known. Conditions: none. -/
import Derived.Test.YtgfpnkakglgokaaMapR
import Derived.Test.YtgfpnkakglgokaaChecked
import Derived.Deep.QuietTactic
import Derived.BigQuiet
import Derived.Deep.DeepMust
import Derived.Deep.RegionWith
import Derived.Test.YtgfpnkakglgokaaRes
import Derived.Test.YtgfpnkakglgokaaRet
import Derived.Test.YtgfpnkakglgokaaQLow
namespace Go.Proofs.Ytgfpnkakglgokaa
open Go.RowKit Go.Lib Go.Maps Go.ChangeMaps Go.MapKept

/-- Block b is a map of just n entries; f tells what stands at a key. -/
def MapE (P : Program) (k : TypeId) (w : World) (b n : Nat) (f : Lit → Option Value) : Prop :=
  ∃ D : DataW Value, w.ownsMap P k rawR b n D ∧ (∀ kl, Maps.has D kl = (f kl).isSome ∧ ∀ v, f kl = some v → ∀ z, D.atKey kl z = .held v) ∧ Maps.size D = n
section
variable {P : Program} {k : TypeId} {w w' : World} {b n : Nat} {f : Lit → Option Value}
theorem MapE.v (h : MapE P k w b n f) : MapV P k w b n f := by obtain ⟨D, h1, h2, _⟩ := h; exact ⟨D, h1, h2⟩
theorem MapE.made (w : World) (P : Program) (k : TypeId) : MapE P k (w.alloc (.map #[] 0)) w.heap.size 0 (fun _ => none) :=
  ⟨.map [], World.ownsMap_made w P k rawR, fun kl => ⟨rfl, fun v h => by cases h⟩, rfl⟩
theorem MapE.keep (h : MapE P k w b n f) (hk : w'.heap[b]? = w.heap[b]?) : MapE P k w' b n f := by
  obtain ⟨D, ⟨es, clock, hb, F, hs, hD⟩, h2, h3⟩ := h
  exact ⟨D, ⟨es, clock, hk.trans hb, F, hs, hD⟩, h2, h3⟩
theorem MapE.lt (h : MapE P k w b n f) : b < w.heap.size := h.v.lt
theorem MapE.alloc (h : MapE P k w b n f) (o : Obj) : MapE P k (w.alloc o) b n f := h.keep (Below.heap_alloc w o b h.lt)
theorem MapE.drewN (h : MapE P k w b n f) (m : Nat) : MapE P k (w.drewN m) b n f := h
theorem MapE.far (h : MapE P k w b n f) {p : Addr} (hp : b ≠ p.block) (u : Value) : MapE P k (w.setCell p u) b n f := h.keep (Below.heap_setCell w p u b hp)
theorem MapE.below {B : Nat} (h : MapE P k w b n f) (hb : Below B w w') (hB : b < B) : MapE P k w' b n f := h.keep (hb.block b hB)
theorem MapE.keepK {K : Nat → Prop} (h : MapE P k w b n f) (hk : KeepK K w w') (hB : K b) : MapE P k w' b n f := h.keep (hk.block b hB)
theorem MapE.len {t e : TypeId} (h : MapE P k w b n f) (ht : P.underlying t = some (.map k e)) (ty : TypeId) : (Builtin.len_ #[t] ty #[.map (some b)]).run P w = .ok (.int .i64 n) w := by
  obtain ⟨D, h1, _, h3⟩ := h
  rw [h1.len ht ty, h3]
/-- 'm[k] = v', where nothing stood. -/
theorem MapE.store {t e : TypeId} (h : MapE P k w b n f) (K : Keyed P k) (ht : P.underlying t = some (.map k e)) (hn : n < maxLen) {key : Value} {kl : Lit} (hkey : keyOf P k key = some kl) (hkl : WideAt.IsKeyLit kl) (hno : f kl = none) (val : Value) :
    ∃ w', (Instr.mapUpdate t (.map (some b)) key val).run P w = .ok () w' ∧ MapE P k w' b (n + 1) (fun x => if x.sameKey kl then some val else f x) ∧ w.grownBy w' (some b) ∧ (∀ a, w'.cell? a = w.cell? a) ∧ ∀ a, w'.frozen? a = w.frozen? a := by
  obtain ⟨D, h1, h2, h3⟩ := h
  have him := h1.isMap
  obtain ⟨w1, hr, h4, h5⟩ := h1.store K ht hn (d := .held val) (ps := []) hkey rfl
  have hsz : Maps.size (D.put kl (.held val)) = n + 1 := by
    rw [size_put (h1.tidy K), (h2 kl).1, hno, h3]; rfl
  refine ⟨w1, hr, ⟨_, h4, fun x => ?_, hsz⟩, h5.grown, fun a => ?_, fun a => h5.frozen a⟩
  · by_cases hx : x = kl
    · subst hx
      dsimp only
      rw [if_pos (WideAt.sameKey_self hkl)]
      refine ⟨has_put_same him hkl _, fun v hv z => ?_⟩
      injection hv with hv
      subst hv
      exact atKey_put_same him hkl _ _
    · dsimp only
      rw [if_neg (by rw [sameKey_ne hx]; simp)]
      refine ⟨(has_put_other hx _).trans (h2 x).1, fun v hv z => ?_⟩
      rw [atKey_put_other hx]
      exact (h2 x).2 v hv z
  · obtain ⟨es, clock, es', clock', hb, rfl⟩ := h5
    by_cases ha : a.block = b
    · unfold World.cell?
      rw [ha, hb, heap_setBlock_same hb]
    · exact World.cell?_of_block (heap_setBlock_other hb _ ha)
/-- 'delete(m, k)', where something stood. -/
theorem MapE.drop {t e : TypeId} (h : MapE P k w b (n + 1) f) (K : Keyed P k) (ht : P.underlying t = some (.map k e)) {key : Value} {kl : Lit} (hkey : keyOf P k key = some kl) (hkl : WideAt.IsKeyLit kl) (hyes : (f kl).isSome = true) (ty : TypeId) :
    ∃ w', (Builtin.delete_ #[t, k] ty #[.map (some b), key]).run P w = .ok (.tuple #[]) w' ∧ MapE P k w' b n (fun x => if x.sameKey kl then none else f x) ∧ w.grownBy w' (some b) ∧ (∀ a, w'.cell? a = w.cell? a) ∧ ∀ a, w'.frozen? a = w.frozen? a := by
  obtain ⟨D, h1, h2, h3⟩ := h
  obtain ⟨w1, hr, h4, h5⟩ := h1.drop K ht hkey ty
  have hsz : Maps.size (D.del kl) = n := by
    have := size_del (k := kl) (h1.tidy K)
    rw [(h2 kl).1, hyes, h3] at this
    simpa using this
  have h6 : w1.ownsMap P k rawR b n (D.del kl) := by
    obtain ⟨es, clock, hb, F, hs, hD⟩ := h4
    refine ⟨es, clock, hb, F, ?_, hD⟩
    rw [hD] at hsz
    simp [Maps.size, length_sorted] at hsz
    omega
  refine ⟨w1, hr, ⟨_, h6, fun x => ?_, hsz⟩, h5.grown, fun a => ?_, fun a => h5.frozen a⟩
  · by_cases hx : x = kl
    · subst hx
      dsimp only
      rw [if_pos (WideAt.sameKey_self hkl)]
      exact ⟨has_del_same, fun v hv => by cases hv⟩
    · dsimp only
      rw [if_neg (by rw [sameKey_ne hx]; simp)]
      refine ⟨(has_del_other hx).trans (h2 x).1, fun v hv z => ?_⟩
      rw [atKey_del_other hx]
      exact (h2 x).2 v hv z
  · obtain ⟨es, clock, es', clock', hb, rfl⟩ := h5
    by_cases ha : a.block = b
    · unfold World.cell?
      rw [ha, hb, heap_setBlock_same hb]
    · exact World.cell?_of_block (heap_setBlock_other hb _ ha)
end

/-- A limit. -/
structure Lim where
  many : Int
  window : Int
  slip : Int
  bits : Int
  room : Int
def Lim.cells (l : Lim) (m p q : Value) : Array Value := #[.int .i64 l.many, .int .i64 l.window, .int .i64 l.slip, .int .i64 l.bits, .int .i64 l.room, m, p, q]
structure Lim.Ok (l : Lim) : Prop where
  many : 0 ≤ l.many ∧ l.many ≤ 1048576
  window : 1 ≤ l.window ∧ l.window ≤ 3600
  slip : 0 ≤ l.slip ∧ l.slip ≤ 1048576
  bits : 0 ≤ l.bits ∧ l.bits ≤ 32
  room : 1 ≤ l.room ∧ l.room ≤ 4096
/-- No prefix is known. -/
structure R0 (w : World) (l : Lim) (g mb : Nat) : Prop where
  bx : Blk w g 58 (l.cells (.map (some mb)) (.pointer none) (.pointer none))
  mp : ∃ F : Lit → Option Value, MapE Try.prog 25 w mb 0 F ∧ ∀ k : Int, F (.int .u32 k) = none
  ne : g ≠ mb
/-- A count that stands by itself. -/
def NodeC (w : World) (nb : Nat) (a win h o : Int) (u v : Option Addr) : Prop := Blk w nb 70 #[.int .u32 a, .int .i64 win, .int .i64 h, .int .i64 o, .pointer u, .pointer v]
/-- One is known. -/
structure R1 (w : World) (l : Lim) (g mb nb : Nat) (a win h o : Int) : Prop where
  bx : Blk w g 58 (l.cells (.map (some mb)) (.pointer (some ⟨nb, 0, none⟩)) (.pointer (some ⟨nb, 0, none⟩)))
  no : NodeC w nb a win h o none none
  mp : ∃ F : Lit → Option Value, MapE Try.prog 25 w mb 1 F ∧ ∀ k, F (.int .u32 k) = if k = a then some (.pointer (some ⟨nb, 0, none⟩)) else none
  ne : g ≠ mb ∧ nb ≠ g ∧ nb ≠ mb

theorem keyed32r : Maps.Keyed Try.prog 25 := Maps.int_keyed Try.underlying25
theorem wf32r {a : Int} (h : 0 ≤ a ∧ a ≤ 4294967295) : (Lit.int .u32 a).wf = true := by
  simp [Lit.wf, IntKind.min, IntKind.max, IntKind.signed, IntKind.bits]; omega
set_option maxRecDepth 100000 in
set_option maxHeartbeats 2000000 in
theorem unlinkR_any {w : World} {l : Lim} {g mb nb : Nat} {a win hh o : Int} (h : R1 w l g mb nb a win hh o) (ha : 0 ≤ a ∧ a ≤ 4294967295) :
    Calls Try.prog 19 #[.pointer (some ⟨g, 0, none⟩), .pointer (some ⟨nb, 0, none⟩)] w fun e w' => e = .returned (.tuple #[]) ∧ R0 w' l g mb ∧ NodeC w' nb a win hh o none none ∧ KeepK (fun i => i < w.heap.size ∧ i ≠ g ∧ i ≠ mb) w w' := by
  obtain ⟨F, m1, m2⟩ := h.mp
  have n0 := h.no.cell 0
  have n4 := h.no.cell 4
  have n5 := h.no.cell 5
  have g5 : w.cell? ⟨g, 5, none⟩ = some (.map (some mb)) := h.bx.cell 5
  have g6 : w.cell? ⟨g, 6, none⟩ = some (.pointer (some ⟨nb, 0, none⟩)) := h.bx.cell 6
  have g7 : w.cell? ⟨g, 7, none⟩ = some (.pointer (some ⟨nb, 0, none⟩)) := h.bx.cell 7
  have f6 := h.bx.frozen 6
  have f7 := h.bx.frozen 7
  have hng := h.ne.2.1
  have hng2 : g ≠ nb := fun e => h.ne.2.1 e.symm
  obtain ⟨W2, hW2⟩ : ∃ W2, (w.setCell ⟨g, 6, none⟩ (.pointer none)).setCell ⟨g, 7, none⟩ (.pointer none) = W2 := ⟨_, rfl⟩
  have M2 : MapE Try.prog 25 W2.drew mb 1 F := by rw [← hW2]; exact ((m1.far (p := ⟨g, 6, none⟩) (fun e => h.ne.1 e.symm) _).far (p := ⟨g, 7, none⟩) (fun e => h.ne.1 e.symm) _).drewN 1
  obtain ⟨w9, hdel, hM9, hg9, _⟩ := M2.drop keyed32r Try.underlying55 (Maps.keyOf_int_mk Try.underlying25 (wf32r ha)) (key_int_isKey .u32 a) (by rw [m2, if_pos rfl]; rfl) 0
  have H := Lib.hid (And.intro h (And.intro hM9 (And.intro hg9 (And.intro m2 hW2))))
  clear h m1 m2 M2 hM9 hg9
  go_enter Try.func19, Try.ntmps19
  go_wp2_with (fail)
  have d1 : W2.cell? ⟨g, 5, none⟩ = some (.map (some mb)) := by rw [← hW2, World.cell?_setCell_other _ _ _ _ (by intro e; injection e; omega), World.cell?_setCell_other _ _ _ _ (by intro e; injection e; omega)]; exact g5
  have d0 : W2.cell? ⟨nb, 0, none⟩ = some (.int .u32 a) := by rw [← hW2, World.cell?_setCell_other _ _ _ _ (by intro e; injection e; omega), World.cell?_setCell_other _ _ _ _ (by intro e; injection e; omega)]; exact n0
  clear hW2 n0 n4 n5 g5 g6 g7 f6 f7
  first | (go_region_with (fail)) | (fail "no way")
  all_goals
    go_wp2_with (fail)
    refine bodyPost_end (results_none rfl _ _ _) rfl ?_
    obtain ⟨h, hM9, hg9, m2, hW2⟩ := H.out
    have hk : KeepK (fun i => i < w.heap.size ∧ i ≠ g ∧ i ≠ mb) w w9 := by
      have k1 : KeepK (fun i => i < w.heap.size ∧ i ≠ g ∧ i ≠ mb) w W2 := by rw [← hW2]; exact ((KeepK.refl _ w).setCell (p := ⟨g, 6, none⟩) (fun i hi => hi.2.1) _).setCell (p := ⟨g, 7, none⟩) (fun i hi => hi.2.1) _
      exact k1.drew.grown hg9 (fun i hi => Nat.lt_of_lt_of_le hi.1 k1.size) (fun i hi e => hi.2.2 (by injection e))
    refine ⟨rfl, ⟨?_, ⟨_, hM9, fun k => ?_⟩, h.ne.1⟩, ?_, hk⟩
    · have hb : Blk W2 g 58 (l.cells (.map (some mb)) (.pointer none) (.pointer none)) := by
        rw [← hW2]
        have := (h.bx.set_ 6 (.pointer none)).set_ 7 (.pointer none)
        simpa [Lim.cells] using this
      exact hb.drew.grown hg9 (fun e => h.ne.1 (by injection e))
    · split
      · rfl
      · rename_i hs
        rw [m2, if_neg]
        rintro rfl
        exact hs (WideAt.sameKey_self (key_int_isKey .u32 k))
    · have hb : NodeC W2 nb a win hh o none none := by
        rw [← hW2]
        exact (Blk.far h.no (p := ⟨g, 6, none⟩) hng _).far (p := ⟨g, 7, none⟩) hng _
      exact (Blk.drew hb).grown hg9 (fun e => h.ne.2.2 (by injection e))
set_option maxRecDepth 100000 in
set_option maxHeartbeats 2000000 in
theorem linkR_any {w : World} {l : Lim} {g mb nb : Nat} {a win hh o : Int} {u v : Option Addr} (h : R0 w l g mb) (hn : NodeC w nb a win hh o u v) (hne : nb ≠ g ∧ nb ≠ mb) (ha : 0 ≤ a ∧ a ≤ 4294967295) :
    Calls Try.prog 20 #[.pointer (some ⟨g, 0, none⟩), .pointer (some ⟨nb, 0, none⟩)] w fun e w' => e = .returned (.tuple #[]) ∧ R1 w' l g mb nb a win hh o ∧ KeepK (fun i => i < w.heap.size ∧ i ≠ g ∧ i ≠ mb ∧ i ≠ nb) w w' := by
  obtain ⟨F, m1, m2⟩ := h.mp
  have n0 := hn.cell 0
  have n4 := hn.cell 4
  have n5 := hn.cell 5
  have p4 := hn.frozen 4
  have p5 := hn.frozen 5
  have g5 : w.cell? ⟨g, 5, none⟩ = some (.map (some mb)) := h.bx.cell 5
  have g6 : w.cell? ⟨g, 6, none⟩ = some (.pointer none) := h.bx.cell 6
  have g7 : w.cell? ⟨g, 7, none⟩ = some (.pointer none) := h.bx.cell 7
  have f6 := h.bx.frozen 6
  have f7 := h.bx.frozen 7
  have hng := hne.1
  have hng2 : g ≠ nb := fun e => hne.1 e.symm
  obtain ⟨W2, hW2⟩ : ∃ W2, ((((w.setCell ⟨nb, 4, none⟩ (.pointer none)).setCell ⟨nb, 5, none⟩ (.pointer none)).setCell ⟨g, 7, none⟩ (.pointer (some ⟨nb, 0, none⟩))).setCell ⟨g, 6, none⟩ (.pointer (some ⟨nb, 0, none⟩))) = W2 := ⟨_, rfl⟩
  have hmg : mb ≠ g := fun e => h.ne e.symm
  have hmn : mb ≠ nb := fun e => hne.2 e.symm
  have M2 : MapE Try.prog 25 W2.drew mb 0 F := by rw [← hW2]; exact ((((m1.far (p := ⟨nb, 4, none⟩) hmn _).far (p := ⟨nb, 5, none⟩) hmn _).far (p := ⟨g, 7, none⟩) hmg _).far (p := ⟨g, 6, none⟩) hmg _).drewN 1
  obtain ⟨w9, hst, hM9, hg9, _⟩ := M2.store keyed32r Try.underlying55 (by unfold maxLen; omega) (Maps.keyOf_int_mk Try.underlying25 (wf32r ha)) (key_int_isKey .u32 a) (m2 a) (.pointer (some ⟨nb, 0, none⟩))
  have H := Lib.hid (And.intro h (And.intro hM9 (And.intro hg9 (And.intro m2 (And.intro hW2 hn)))))
  clear m1 m2 M2 hM9 hg9 hn
  go_enter Try.func20, Try.ntmps20
  go_wp2_with (fail)
  have B2 : Blk W2 g 58 (l.cells (.map (some mb)) (.pointer (some ⟨nb, 0, none⟩)) (.pointer (some ⟨nb, 0, none⟩))) := by
    rw [← hW2]
    have := (((Blk.far (Blk.far h.bx (p := ⟨nb, 4, none⟩) hng2 (.pointer none)) (p := ⟨nb, 5, none⟩) hng2 (.pointer none)).set_ 7 (.pointer (some ⟨nb, 0, none⟩))).set_ 6 (.pointer (some ⟨nb, 0, none⟩)))
    simpa [Lim.cells] using this
  have N2 : NodeC W2 nb a win hh o none none := by
    rw [← hW2]
    have := ((Blk.set_ (Blk.set_ H.out.2.2.2.2.2 4 (.pointer none)) 5 (.pointer none)).far (p := ⟨g, 7, none⟩) hng (.pointer (some ⟨nb, 0, none⟩))).far (p := ⟨g, 6, none⟩) hng (.pointer (some ⟨nb, 0, none⟩))
    simpa [NodeC] using this
  have d1 : W2.cell? ⟨g, 5, none⟩ = some (.map (some mb)) := B2.cell 5
  have d0 := Blk.cell N2 0
  have HB := Lib.hid (And.intro B2 N2)
  clear hW2 n0 n4 n5 p4 p5 g5 g6 g7 f6 f7 B2 N2 h
  first | (go_region_with (fail)) | (fail "no way")
  all_goals
    go_wp2_with (fail)
    refine bodyPost_end (results_none rfl _ _ _) rfl ?_
    obtain ⟨h, hM9, hg9, m2, hW2, _⟩ := H.out
    have hk : KeepK (fun i => i < w.heap.size ∧ i ≠ g ∧ i ≠ mb ∧ i ≠ nb) w w9 := by
      have k1 : KeepK (fun i => i < w.heap.size ∧ i ≠ g ∧ i ≠ mb ∧ i ≠ nb) w W2 := by rw [← hW2]; exact ((((KeepK.refl _ w).setCell (p := ⟨nb, 4, none⟩) (fun i hi => hi.2.2.2) _).setCell (p := ⟨nb, 5, none⟩) (fun i hi => hi.2.2.2) _).setCell (p := ⟨g, 7, none⟩) (fun i hi => hi.2.1) _).setCell (p := ⟨g, 6, none⟩) (fun i hi => hi.2.1) _
      exact k1.drew.grown hg9 (fun i hi => Nat.lt_of_lt_of_le hi.1 k1.size) (fun i hi e => hi.2.2.1 (by injection e))
    refine ⟨rfl, ⟨HB.out.1.drew.grown hg9 (fun e => hmg (by injection e with e; exact e.symm)), (Blk.drew HB.out.2).grown hg9 (fun e => hne.2 (by injection e)), ⟨_, hM9, fun k => ?_⟩, ⟨h.ne, hne.1, hne.2⟩⟩, hk⟩
    by_cases hka : k = a
    · subst hka
      rw [if_pos (WideAt.sameKey_self (key_int_isKey .u32 k)), if_pos rfl]
    · rw [if_neg hka, if_neg, m2]
      intro hs
      exact hka (by have := WideAt.sameKey_eq hs; injection this)
end Go.Proofs.Ytgfpnkakglgokaa

namespace Go.Proofs.Ytgfpnkakglgokaa
open Go.RowKit Go.Lib

theorem between_int (a lo hi : Int) (w : World) : Calls Try.prog 30 #[.int .i64 a, .int .i64 lo, .int .i64 hi] w fun e w' => e = .returned (.bool (decide (lo ≤ a) && decide (a ≤ hi))) ∧ w = w' := by
  by_cases h1 : lo ≤ a
  · by_cases h2 : a ≤ hi
    all_goals
      go_enter Try.func30, Try.ntmps30
      go_wp2
      go_ret
      exact ⟨ret_b (by simp [h1, h2]), rfl⟩
  · go_enter Try.func30, Try.ntmps30
    go_wp2
    go_ret
    exact ⟨ret_b (by have h9 : ¬ lo ≤ a := by omega
                     simp [h9]), rfl⟩
theorem between_int64 (a lo hi : Int) (w : World) : Calls Try.prog 31 #[.int .i64 a, .int .i64 lo, .int .i64 hi] w fun e w' => e = .returned (.bool (decide (lo ≤ a) && decide (a ≤ hi))) ∧ w = w' := by
  by_cases h1 : lo ≤ a
  · by_cases h2 : a ≤ hi
    all_goals
      go_enter Try.func31, Try.ntmps31
      go_wp2
      go_ret
      exact ⟨ret_b (by simp [h1, h2]), rfl⟩
  · go_enter Try.func31, Try.ntmps31
    go_wp2
    go_ret
    exact ⟨ret_b (by have h9 : ¬ lo ≤ a := by omega
                     simp [h9]), rfl⟩
def Lim.val (l : Lim) : Value := .agg #[.int .i64 l.many, .int .i64 l.window, .int .i64 l.slip, .int .i64 l.bits, .int .i64 l.room]
theorem dec_two {a lo hi : Int} (h : (decide (lo ≤ a) && decide (a ≤ hi)) = true) : lo ≤ a ∧ a ≤ hi := by simpa using h
theorem rateCheck_any (l : Lim) (w : World) : Calls Try.prog 12 #[l.val] w fun e w' => Below w.heap.size w w' ∧ ((e = .returned (.int .i64 0) ∧ l.Ok) ∨ e = .returned (.int .i64 2)) := by
  have HA := Lib.hid (fun a lo hi W => between_int a lo hi W)
  have HB := Lib.hid (fun a lo hi W => between_int64 a lo hi W)
  dsimp only [Lim.val]
  go_enter Try.func12, Try.ntmps12
  go_wp2_with (fail)
  have hb : Below w.heap.size w (w.alloc (.cells #[.int .i64 l.many, .int .i64 l.window, .int .i64 l.slip, .int .i64 l.bits, .int .i64 l.room] 23)) := (Below.refl _ _).alloc (Nat.le_refl _) _
  refine (HA.out _ _ _ _).mono ?_
  rintro e w1 ⟨rfl, rfl⟩
  cases h1 : (decide (0 ≤ l.many) && decide (l.many ≤ 1048576))
  · go_wp2_with (fail)
    go_ret
    exact ⟨hb, .inr rfl⟩
  go_wp2_with (fail)
  refine (HB.out _ _ _ _).mono ?_
  rintro e w1 ⟨rfl, rfl⟩
  cases h2 : (decide (1 ≤ l.window) && decide (l.window ≤ 3600))
  · go_wp2_with (fail)
    go_ret
    exact ⟨hb, .inr rfl⟩
  go_wp2_with (fail)
  refine (HA.out _ _ _ _).mono ?_
  rintro e w1 ⟨rfl, rfl⟩
  cases h3 : (decide (0 ≤ l.slip) && decide (l.slip ≤ 1048576))
  · go_wp2_with (fail)
    go_ret
    exact ⟨hb, .inr rfl⟩
  go_wp2_with (fail)
  refine (HA.out _ _ _ _).mono ?_
  rintro e w1 ⟨rfl, rfl⟩
  cases h4 : (decide (0 ≤ l.bits) && decide (l.bits ≤ 32))
  · go_wp2_with (fail)
    go_ret
    exact ⟨hb, .inr rfl⟩
  go_wp2_with (fail)
  refine (HA.out _ _ _ _).mono ?_
  rintro e w1 ⟨rfl, rfl⟩
  cases h5 : (decide (1 ≤ l.room) && decide (l.room ≤ 4096))
  · go_wp2_with (fail)
    go_ret
    exact ⟨hb, .inr rfl⟩
  go_wp2_with (fail)
  go_ret
  exact ⟨hb, .inl ⟨rfl, dec_two h1, dec_two h2, dec_two h3, dec_two h4, dec_two h5⟩⟩
def RateNewP (l : Lim) (w : World) (e : Ending) (w' : World) : Prop :=
  Below w.heap.size w w' ∧ ((l.Ok ∧ ∃ g mb, e = .returned (.tuple #[.pointer (some ⟨g, 0, none⟩), .int .i64 0]) ∧ R0 w' l g mb ∧ w.heap.size ≤ g ∧ w.heap.size ≤ mb) ∨ e = .returned (.tuple #[.pointer none, .int .i64 2]))
theorem rateNew_any (l : Lim) (w : World) : Calls Try.prog 5 #[l.val] w (RateNewP l w) := by
  have HC := Lib.hid (fun W => rateCheck_any l W)
  have hmm : ∀ W : World, (Instr.makeMap 55 none).run Try.prog W = .ok (.map (some W.heap.size)) (W.alloc (.map #[] 0)) := fun W => rfl
  dsimp only [Lim.val] at HC ⊢
  go_enter Try.func5, Try.ntmps5
  go_wp2_with (fail)
  refine (HC.out _).mono ?_
  rintro e w1 ⟨hb, h⟩
  have hb0 : Below w.heap.size w (w.alloc (.cells #[.int .i64 l.many, .int .i64 l.window, .int .i64 l.slip, .int .i64 l.bits, .int .i64 l.room] 23)) := (Below.refl _ _).alloc (Nat.le_refl _) _
  have hB : Blk w1 w.heap.size 23 #[.int .i64 l.many, .int .i64 l.window, .int .i64 l.slip, .int .i64 l.bits, .int .i64 l.room] := (Blk.new w _ _).below hb (by simp)
  have hbw := hb0.trans (hb.mono hb0.size)
  have HW := Lib.hid (And.intro hbw h)
  rcases h with ⟨rfl, hok⟩ | rfl
  · have c0 := hB.cell 0
    have c1 := hB.cell 1
    have c2 := hB.cell 2
    have c3 := hB.cell 3
    have c4 := hB.cell 4
    clear hb hb0 hB hbw
    go_wp2_with (fail)
    go_ret2
    have h1 := Blk.new (w1.alloc (.map #[] 0)) 58 (l.cells (.map (some w1.heap.size)) (.pointer none) (.pointer none))
    rw [World.size_alloc] at h1
    exact ⟨(HW.out.1.alloc HW.out.1.size _).alloc (by have := HW.out.1.size; simp; omega) _, .inl ⟨hok, _, _, rfl, ⟨h1, ⟨_, (MapE.made w1 _ _).alloc _, fun _ => rfl⟩, by omega⟩, by have := HW.out.1.size; omega, HW.out.1.size⟩⟩
  · clear hb hb0 hB hbw
    go_wp2_with (fail)
    go_ret2
    exact ⟨HW.out.1, .inr rfl⟩
/-- The prefix of an address. -/
def prefixI (a b : Int) : Int := bits .and .u32 a (4294967295 * 2 ^ (32 - b).toNat % 4294967296)
theorem prefixI_in (a b : Int) : 0 ≤ prefixI a b ∧ prefixI a b ≤ 4294967295 := by
  unfold prefixI
  show 0 ≤ IntKind.u32.wrap _ ∧ IntKind.u32.wrap _ ≤ _
  rw [IntKind.wrap_u32]
  omega
set_option maxRecDepth 100000 in
theorem prefix_any (a b : Int) (hb : 0 ≤ b ∧ b ≤ 32) (w : World) : Calls Try.prog 18 #[.int .u32 a, .int .i64 b] w fun e w' => e = .returned (.int .u32 (prefixI a b)) ∧ w = w' := by
  obtain ⟨h1, h2⟩ := hb
  go_enter Try.func18, Try.ntmps18
  go_wp2_with (fail)
  go_ret
  exact ⟨rfl, rfl⟩
set_option maxRecDepth 100000 in
theorem zero_ptrR (w : World) : (zeroValue 56).run Try.prog w = .ok (.pointer none) w := by rfl
def HitP (w : World) (l : Lim) (g mb nb : Nat) (p win h o : Int) (e : Ending) (w' : World) : Prop :=
  ∃ v : Int, e = .returned (.int .u8 v) ∧ (v = 0 ↔ h + 1 ≤ l.many) ∧ R1 w' l g mb nb p win (h + 1) (if h + 1 ≤ l.many then o else o + 1) ∧ KeepK (fun i => i < w.heap.size ∧ i ≠ g ∧ i ≠ mb ∧ i ≠ nb) w w'
theorem R1.keep_ {K : Nat → Prop} {w w' : World} {l : Lim} {g mb nb : Nat} {a win h o : Int} (hR : R1 w l g mb nb a win h o) (hk : KeepK K w w') (hK : ∀ i, i < w.heap.size → K i) : R1 w' l g mb nb a win h o := by
  obtain ⟨F, m1, m2⟩ := hR.mp
  exact ⟨hR.bx.keepK hk (hK _ hR.bx.lt), Blk.keepK hR.no hk (hK _ (Blk.lt hR.no)), ⟨F, m1.keepK hk (hK _ m1.lt), m2⟩, hR.ne⟩
theorem R1.count_ {w : World} {l : Lim} {g mb nb : Nat} {a win h o h' o' : Int} (hR : R1 w l g mb nb a win h o) (i : Nat) (v : Value) (hn : NodeC (w.setCell ⟨nb, i, none⟩ v) nb a win h' o' none none) :
    R1 (w.setCell ⟨nb, i, none⟩ v) l g mb nb a win h' o' ∧ KeepK (fun i => i ≠ nb) w (w.setCell ⟨nb, i, none⟩ v) := by
  obtain ⟨F, m1, m2⟩ := hR.mp
  have hk : KeepK (fun i => i ≠ nb) w (w.setCell ⟨nb, i, none⟩ v) := (KeepK.refl _ w).setCell (p := ⟨nb, i, none⟩) (fun i hi => hi) v
  exact ⟨⟨hR.bx.keepK hk (fun e => hR.ne.2.1 e.symm), hn, ⟨F, m1.keepK hk (fun e => hR.ne.2.2 e.symm), m2⟩, hR.ne⟩, hk⟩
set_option maxRecDepth 100000 in
set_option maxHeartbeats 2000000 in
theorem hit0_any {w : World} {l : Lim} {g mb : Nat} (h : R0 w l g mb) (hl : l.Ok) (a now : Int) (hnow : 0 ≤ now ∧ now ≤ 9223372036854775807) :
    Calls Try.prog 7 #[.pointer (some ⟨g, 0, none⟩), .int .u32 a, .int .i64 now] w fun e w' => ∃ nb, HitP w l g mb nb (prefixI a l.bits) (now / l.window) 0 0 e w' ∧ w.heap.size ≤ nb := by
  obtain ⟨F, m1, m2⟩ := h.mp
  have g0 : w.cell? ⟨g, 0, none⟩ = some (.int .i64 l.many) := h.bx.cell 0
  have g1 : w.cell? ⟨g, 1, none⟩ = some (.int .i64 l.window) := h.bx.cell 1
  have g2 : w.cell? ⟨g, 2, none⟩ = some (.int .i64 l.slip) := h.bx.cell 2
  have g3 : w.cell? ⟨g, 3, none⟩ = some (.int .i64 l.bits) := h.bx.cell 3
  have g4 : w.cell? ⟨g, 4, none⟩ = some (.int .i64 l.room) := h.bx.cell 4
  have g5 : w.cell? ⟨g, 5, none⟩ = some (.map (some mb)) := h.bx.cell 5
  have hpi := prefixI_in a l.bits
  have HP := Lib.hid (fun W => prefix_any a l.bits hl.bits W)
  generalize prefixI a l.bits = p at hpi HP ⊢
  have hlk : (Instr.lookup 55 (.map (some mb)) (.int .u32 p) false).run Try.prog w = .ok (.pointer none) w := by
    have := m1.v.look keyed32r Try.underlying55 (zero_ptrR w) (Maps.keyOf_int_mk Try.underlying25 (wf32r hpi))
    rw [m2 p] at this
    exact this
  obtain ⟨n1, n2⟩ := hnow
  have hw1 : ¬ l.window < 1 := by have := hl.window; omega
  have hw2 : 1 ≤ l.window := by have := hl.window; omega
  have hw3 : l.window ≤ 3600 := by have := hl.window; omega
  have hr1 : ¬ l.room < 1 := by have := hl.room; omega
  have H := Lib.hid (And.intro h (And.intro hl hpi))
  clear h hl m1 m2
  go_enter Try.func7, Try.ntmps7
  go_wp2_with (fail)
  refine (HP.out _).mono ?_
  rintro e w1 ⟨rfl, rfl⟩
  go_wp2_with (fail)
  obtain ⟨V, hV⟩ : ∃ V, w.alloc (.cells #[.int .u32 p, .int .i64 (now / l.window), .int .i64 0, .int .i64 0, .pointer none, .pointer none] 70) = V := ⟨_, rfl⟩
  obtain ⟨nb, hnb⟩ : ∃ nb, w.heap.size = nb := ⟨_, rfl⟩
  have HV := Lib.hid (show R0 V l g mb ∧ NodeC V nb p (now / l.window) 0 0 none none ∧ Below w.heap.size w V ∧ w.heap.size ≤ nb ∧ nb ≠ g ∧ nb ≠ mb from by
    obtain ⟨h, hb⟩ := H.out
    obtain ⟨F, m1, m2⟩ := h.mp
    have b2 : Below w.heap.size w V := by rw [← hV]; exact (Below.refl _ _).alloc (Nat.le_refl _) _
    refine ⟨⟨h.bx.below b2 h.bx.lt, ⟨F, m1.below b2 m1.lt, m2⟩, h.ne⟩, ?_, b2, by omega, fun e => by have := h.bx.lt; omega, fun e => by have := m1.lt; omega⟩
    rw [← hV, ← hnb]
    exact Blk.new _ _ _)
  rw [hV, hnb]
  clear hV hnb g0 g1 g2 g3 g4 g5 hlk
  have HL := Lib.hid (linkR_any HV.out.1 HV.out.2.1 HV.out.2.2.2.2 H.out.2.2)
  with_reducible refine HL.out.mono ?_
  rintro e w2 ⟨rfl, hp, hk⟩
  have H2 := Lib.hid (And.intro hp hk)
  have HKC := Lib.hid (show KeepK (fun i => i < w.heap.size ∧ i ≠ g ∧ i ≠ mb ∧ i ≠ nb) w w2 from (KeepK.of_below HV.out.2.2.1 fun i hi => hi.1).trans (hk.mono fun i hi => ⟨by have := HV.out.2.2.1.size; omega, hi.2⟩))
  clear hp hk HL
  have hB2 := H2.out.1.bx
  have g0 : w2.cell? ⟨g, 0, none⟩ = some (.int .i64 l.many) := hB2.cell 0
  have g1 : w2.cell? ⟨g, 1, none⟩ = some (.int .i64 l.window) := hB2.cell 1
  have g2 : w2.cell? ⟨g, 2, none⟩ = some (.int .i64 l.slip) := hB2.cell 2
  have g3 : w2.cell? ⟨g, 3, none⟩ = some (.int .i64 l.bits) := hB2.cell 3
  have g4 : w2.cell? ⟨g, 4, none⟩ = some (.int .i64 l.room) := hB2.cell 4
  have g5 : w2.cell? ⟨g, 5, none⟩ = some (.map (some mb)) := hB2.cell 5
  have c0 : w2.cell? ⟨nb, 2, none⟩ = some (.int .i64 0) := Blk.cell H2.out.1.no 2
  have e2 := Blk.frozen H2.out.1.no 2
  have hlen : ∀ ty k, (Builtin.len_ #[55] ty #[.map (some mb)]).run Try.prog (w2.drewN k) = .ok (.int .i64 1) (w2.drewN k) := fun ty k => by
    obtain ⟨F2, q1, q2⟩ := H2.out.1.mp
    exact (q1.drewN k).len Try.underlying55 ty
  clear hB2
  go_wp2_with (fail)
  go_quiet (fail)
  obtain ⟨W3, hW3⟩ : ∃ W3, w2.drewN nq = W3 := ⟨_, rfl⟩
  have hR3 : R1 W3 l g mb nb p (now / l.window) 0 0 := by rw [← hW3]; exact H2.out.1.keep_ (KeepK.drewN (KeepK.refl (fun _ => True) w2) nq) (fun _ _ => trivial)
  have hk3 : KeepK (fun _ => True) w2 W3 := by rw [← hW3]; exact KeepK.drewN (KeepK.refl _ _) nq
  rw [hW3]
  have HR3 := Lib.hid (And.intro hR3 hk3)
  clear hW3 g0 g1 g2 g3 g4 g5 c0 e2 hlen hR3 hk3
  have c0 : W3.cell? ⟨nb, 2, none⟩ = some (.int .i64 0) := Blk.cell HR3.out.1.no 2
  have e2 := Blk.frozen HR3.out.1.no 2
  go_wp2_with (fail)
  obtain ⟨W4, hW4⟩ : ∃ W4, W3.setCell ⟨nb, 2, none⟩ (.int .i64 1) = W4 := ⟨_, rfl⟩
  have hR4 : R1 W4 l g mb nb p (now / l.window) 1 0 ∧ KeepK (fun i => i ≠ nb) W3 W4 := by
    rw [← hW4]
    exact HR3.out.1.count_ 2 _ (by have := Blk.set_ HR3.out.1.no 2 (.int .i64 1); simpa [NodeC] using this)
  rw [hW4]
  have HR4 := Lib.hid hR4
  clear hW4 hR4 c0 e2
  have hB4 := HR4.out.1.bx
  have g0 : W4.cell? ⟨g, 0, none⟩ = some (.int .i64 l.many) := hB4.cell 0
  have g2 : W4.cell? ⟨g, 2, none⟩ = some (.int .i64 l.slip) := hB4.cell 2
  have c2 : W4.cell? ⟨nb, 2, none⟩ = some (.int .i64 1) := Blk.cell HR4.out.1.no 2
  clear hB4
  by_cases hm : 0 + 1 ≤ l.many
  · have HM := Lib.hid hm
    go_quiet (fail)
    have hk5 : KeepK (fun _ => True) W4 (W4.drewN nq) := KeepK.drewN (KeepK.refl _ _) nq
    have hR5 := HR4.out.1.keep_ hk5 (fun _ _ => trivial)
    have HR5 := Lib.hid (And.intro hR5 hk5)
    clear hR5 hk5
    go_wp2_with (fail)
    go_ret
    exact ⟨nb, ⟨0, rfl, iff_of_true rfl HM.out, by rw [if_pos HM.out]; exact HR5.out.1, (HKC.out.trans (HR3.out.2.mono fun _ _ => trivial)).trans ((HR4.out.2.mono fun i hi => hi.2.2.2).trans (HR5.out.2.mono fun _ _ => trivial))⟩, HV.out.2.2.2.1⟩
  · have HM := Lib.hid hm
    go_quiet (fail)
    obtain ⟨W5, hW5⟩ : ∃ W5, W4.drewN nq = W5 := ⟨_, rfl⟩
    have hk5 : KeepK (fun _ => True) W4 W5 := by rw [← hW5]; exact KeepK.drewN (KeepK.refl _ _) nq
    have hR5 := HR4.out.1.keep_ hk5 (fun _ _ => trivial)
    have HR5 := Lib.hid (And.intro hR5 hk5)
    rw [hW5]
    clear hR5 hk5 hW5 hm g0 g2 c2
    have c3 : W5.cell? ⟨nb, 3, none⟩ = some (.int .i64 0) := Blk.cell HR5.out.1.no 3
    have e3 := Blk.frozen HR5.out.1.no 3
    go_wp2_with (fail)
    obtain ⟨W6, hW6⟩ : ∃ W6, W5.setCell ⟨nb, 3, none⟩ (.int .i64 1) = W6 := ⟨_, rfl⟩
    have hR6 : R1 W6 l g mb nb p (now / l.window) 1 1 ∧ KeepK (fun i => i ≠ nb) W5 W6 := by
      rw [← hW6]
      exact HR5.out.1.count_ 3 _ (by have := Blk.set_ HR5.out.1.no 3 (.int .i64 1); simpa [NodeC] using this)
    rw [hW6]
    have HR6 := Lib.hid hR6
    clear hW6 hR6 c3 e3
    have hB6 := HR6.out.1.bx
    have g2 : W6.cell? ⟨g, 2, none⟩ = some (.int .i64 l.slip) := hB6.cell 2
    have c3 : W6.cell? ⟨nb, 3, none⟩ = some (.int .i64 1) := Blk.cell HR6.out.1.no 3
    clear hB6
    have hkp : KeepK (fun i => i < w.heap.size ∧ i ≠ g ∧ i ≠ mb ∧ i ≠ nb) w W6 := ((HKC.out.trans (HR3.out.2.mono fun _ _ => trivial)).trans ((HR4.out.2.mono fun i hi => hi.2.2.2).trans (HR5.out.2.mono fun _ _ => trivial))).trans (HR6.out.2.mono fun i hi => hi.2.2.2)
    have HKP := Lib.hid hkp
    clear hkp
    by_cases hs : 0 < l.slip
    · go_quiet (fail)
      obtain ⟨b, hb⟩ : ∃ b, (1 % l.slip == 0) = b := ⟨_, rfl⟩
      rw [hb]
      clear hb
      have hk7 : KeepK (fun _ => True) W6 (W6.drewN nq) := KeepK.drewN (KeepK.refl _ _) nq
      have hR7 := HR6.out.1.keep_ hk7 (fun _ _ => trivial)
      have HR7 := Lib.hid (And.intro hR7 hk7)
      clear hR7 hk7
      cases b with
      | true =>
        go_wp2_with (fail)
        go_ret
        exact ⟨nb, ⟨1, rfl, iff_of_false (by decide) (by have := HM.out; omega), by rw [if_neg (by have := HM.out; omega)]; exact HR7.out.1, HKP.out.trans (HR7.out.2.mono fun _ _ => trivial)⟩, HV.out.2.2.2.1⟩
      | false =>
        go_wp2_with (fail)
        go_ret
        exact ⟨nb, ⟨2, rfl, iff_of_false (by decide) (by have := HM.out; omega), by rw [if_neg (by have := HM.out; omega)]; exact HR7.out.1, HKP.out.trans (HR7.out.2.mono fun _ _ => trivial)⟩, HV.out.2.2.2.1⟩
    · go_quiet (fail)
      have hk7 : KeepK (fun _ => True) W6 (W6.drewN nq) := KeepK.drewN (KeepK.refl _ _) nq
      have hR7 := HR6.out.1.keep_ hk7 (fun _ _ => trivial)
      have HR7 := Lib.hid (And.intro hR7 hk7)
      clear hR7 hk7
      go_wp2_with (fail)
      go_ret
      exact ⟨nb, ⟨2, rfl, iff_of_false (by decide) (by have := HM.out; omega), by rw [if_neg (by have := HM.out; omega)]; exact HR7.out.1, HKP.out.trans (HR7.out.2.mono fun _ _ => trivial)⟩, HV.out.2.2.2.1⟩
set_option maxRecDepth 100000 in
set_option maxHeartbeats 2000000 in
theorem hit1_any {w : World} {l : Lim} {a now : Int} {g mb nb : Nat} {p h0 o0 : Int} (h : R1 w l g mb nb p (now / l.window) h0 o0) (hp : p = prefixI a l.bits) (hh : 0 ≤ h0 ∧ h0 ≤ 1000) (ho : 0 ≤ o0 ∧ o0 ≤ 1000) (hl : l.Ok) (hnow : 0 ≤ now ∧ now ≤ 9223372036854775807) :
    Calls Try.prog 7 #[.pointer (some ⟨g, 0, none⟩), .int .u32 a, .int .i64 now] w (HitP w l g mb nb p (now / l.window) h0 o0) := by
  obtain ⟨F, m1, m2⟩ := h.mp
  have g0 : w.cell? ⟨g, 0, none⟩ = some (.int .i64 l.many) := h.bx.cell 0
  have g1 : w.cell? ⟨g, 1, none⟩ = some (.int .i64 l.window) := h.bx.cell 1
  have g2 : w.cell? ⟨g, 2, none⟩ = some (.int .i64 l.slip) := h.bx.cell 2
  have g3 : w.cell? ⟨g, 3, none⟩ = some (.int .i64 l.bits) := h.bx.cell 3
  have g4 : w.cell? ⟨g, 4, none⟩ = some (.int .i64 l.room) := h.bx.cell 4
  have g5 : w.cell? ⟨g, 5, none⟩ = some (.map (some mb)) := h.bx.cell 5
  have hpi := prefixI_in a l.bits
  have HP := Lib.hid (fun W => prefix_any a l.bits hl.bits W)
  rw [← hp] at hpi HP
  have hlk : (Instr.lookup 55 (.map (some mb)) (.int .u32 p) false).run Try.prog w = .ok (.pointer (some ⟨nb, 0, none⟩)) w := by
    have := m1.v.look keyed32r Try.underlying55 (zero_ptrR w) (Maps.keyOf_int_mk Try.underlying25 (wf32r hpi))
    rw [m2 p, if_pos rfl] at this
    exact this
  obtain ⟨n1, n2⟩ := hnow
  obtain ⟨hh1, hh2⟩ := hh
  obtain ⟨ho1, ho2⟩ := ho
  have hw1 : ¬ l.window < 1 := by have := hl.window; omega
  have hw2 : 1 ≤ l.window := by have := hl.window; omega
  have hw3 : l.window ≤ 3600 := by have := hl.window; omega
  have hr1 : ¬ l.room < 1 := by have := hl.room; omega
  have H := Lib.hid (And.intro h (And.intro hl hpi))
  clear h hl m1 m2 hp
  go_enter Try.func7, Try.ntmps7
  go_wp2_with (fail)
  refine (HP.out _).mono ?_
  rintro e w1 ⟨rfl, rfl⟩
  go_wp2_with (fail)
  clear g0 g1 g2 g3 g4 g5 hlk
  have HU := Lib.hid (unlinkR_any H.out.1 H.out.2.2)
  with_reducible refine HU.out.mono ?_
  rintro e V ⟨rfl, hr, hn, hk⟩
  have c1 : V.cell? ⟨nb, 1, none⟩ = some (.int .i64 (now / l.window)) := Blk.cell hn 1
  have HV := Lib.hid (And.intro hr (And.intro hn hk))
  have HL := Lib.hid (linkR_any hr hn ⟨H.out.1.ne.2.1, H.out.1.ne.2.2⟩ H.out.2.2)
  clear hr hn hk HU
  go_wp2_with (fail)
  with_reducible refine HL.out.mono ?_
  rintro e w2 ⟨rfl, hp, hk⟩
  have H2 := Lib.hid (And.intro hp hk)
  have HKC := Lib.hid (show KeepK (fun i => i < w.heap.size ∧ i ≠ g ∧ i ≠ mb ∧ i ≠ nb) w w2 from (HV.out.2.2.mono fun i hi => ⟨hi.1, hi.2.1, hi.2.2.1⟩).trans (hk.mono fun i hi => ⟨by have := HV.out.2.2.size; omega, hi.2⟩))
  clear hp hk HL c1
  have hB2 := H2.out.1.bx
  have g0 : w2.cell? ⟨g, 0, none⟩ = some (.int .i64 l.many) := hB2.cell 0
  have g1 : w2.cell? ⟨g, 1, none⟩ = some (.int .i64 l.window) := hB2.cell 1
  have g2 : w2.cell? ⟨g, 2, none⟩ = some (.int .i64 l.slip) := hB2.cell 2
  have g3 : w2.cell? ⟨g, 3, none⟩ = some (.int .i64 l.bits) := hB2.cell 3
  have g4 : w2.cell? ⟨g, 4, none⟩ = some (.int .i64 l.room) := hB2.cell 4
  have g5 : w2.cell? ⟨g, 5, none⟩ = some (.map (some mb)) := hB2.cell 5
  have c0 : w2.cell? ⟨nb, 2, none⟩ = some (.int .i64 h0) := Blk.cell H2.out.1.no 2
  have e2 := Blk.frozen H2.out.1.no 2
  have hlen : ∀ ty k, (Builtin.len_ #[55] ty #[.map (some mb)]).run Try.prog (w2.drewN k) = .ok (.int .i64 1) (w2.drewN k) := fun ty k => by
    obtain ⟨F2, q1, q2⟩ := H2.out.1.mp
    exact (q1.drewN k).len Try.underlying55 ty
  clear hB2
  go_wp2_with (fail)
  go_quiet (fail)
  obtain ⟨W3, hW3⟩ : ∃ W3, w2.drewN nq = W3 := ⟨_, rfl⟩
  have hR3 : R1 W3 l g mb nb p (now / l.window) h0 o0 := by rw [← hW3]; exact H2.out.1.keep_ (KeepK.drewN (KeepK.refl (fun _ => True) w2) nq) (fun _ _ => trivial)
  have hk3 : KeepK (fun _ => True) w2 W3 := by rw [← hW3]; exact KeepK.drewN (KeepK.refl _ _) nq
  rw [hW3]
  have HR3 := Lib.hid (And.intro hR3 hk3)
  clear hW3 g0 g1 g2 g3 g4 g5 c0 e2 hlen hR3 hk3
  have c0 : W3.cell? ⟨nb, 2, none⟩ = some (.int .i64 h0) := Blk.cell HR3.out.1.no 2
  have e2 := Blk.frozen HR3.out.1.no 2
  go_wp2_with (fail)
  obtain ⟨W4, hW4⟩ : ∃ W4, W3.setCell ⟨nb, 2, none⟩ (.int .i64 (h0 + 1)) = W4 := ⟨_, rfl⟩
  have hR4 : R1 W4 l g mb nb p (now / l.window) (h0 + 1) o0 ∧ KeepK (fun i => i ≠ nb) W3 W4 := by
    rw [← hW4]
    exact HR3.out.1.count_ 2 _ (by have := Blk.set_ HR3.out.1.no 2 (.int .i64 (h0 + 1)); simpa [NodeC] using this)
  rw [hW4]
  have HR4 := Lib.hid hR4
  clear hW4 hR4 c0 e2
  have hB4 := HR4.out.1.bx
  have g0 : W4.cell? ⟨g, 0, none⟩ = some (.int .i64 l.many) := hB4.cell 0
  have g2 : W4.cell? ⟨g, 2, none⟩ = some (.int .i64 l.slip) := hB4.cell 2
  have c2 : W4.cell? ⟨nb, 2, none⟩ = some (.int .i64 (h0 + 1)) := Blk.cell HR4.out.1.no 2
  clear hB4
  by_cases hm : h0 + 1 ≤ l.many
  · have HM := Lib.hid hm
    go_quiet (fail)
    have hk5 : KeepK (fun _ => True) W4 (W4.drewN nq) := KeepK.drewN (KeepK.refl _ _) nq
    have hR5 := HR4.out.1.keep_ hk5 (fun _ _ => trivial)
    have HR5 := Lib.hid (And.intro hR5 hk5)
    clear hR5 hk5
    go_wp2_with (fail)
    go_ret
    exact ⟨0, rfl, iff_of_true rfl HM.out, by rw [if_pos HM.out]; exact HR5.out.1, (HKC.out.trans (HR3.out.2.mono fun _ _ => trivial)).trans ((HR4.out.2.mono fun i hi => hi.2.2.2).trans (HR5.out.2.mono fun _ _ => trivial))⟩
  · have HM := Lib.hid hm
    go_quiet (fail)
    obtain ⟨W5, hW5⟩ : ∃ W5, W4.drewN nq = W5 := ⟨_, rfl⟩
    have hk5 : KeepK (fun _ => True) W4 W5 := by rw [← hW5]; exact KeepK.drewN (KeepK.refl _ _) nq
    have hR5 := HR4.out.1.keep_ hk5 (fun _ _ => trivial)
    have HR5 := Lib.hid (And.intro hR5 hk5)
    rw [hW5]
    clear hR5 hk5 hW5 hm g0 g2 c2
    have c3 : W5.cell? ⟨nb, 3, none⟩ = some (.int .i64 o0) := Blk.cell HR5.out.1.no 3
    have e3 := Blk.frozen HR5.out.1.no 3
    go_wp2_with (fail)
    obtain ⟨W6, hW6⟩ : ∃ W6, W5.setCell ⟨nb, 3, none⟩ (.int .i64 (o0 + 1)) = W6 := ⟨_, rfl⟩
    have hR6 : R1 W6 l g mb nb p (now / l.window) (h0 + 1) (o0 + 1) ∧ KeepK (fun i => i ≠ nb) W5 W6 := by
      rw [← hW6]
      exact HR5.out.1.count_ 3 _ (by have := Blk.set_ HR5.out.1.no 3 (.int .i64 (o0 + 1)); simpa [NodeC] using this)
    rw [hW6]
    have HR6 := Lib.hid hR6
    clear hW6 hR6 c3 e3
    have hB6 := HR6.out.1.bx
    have g2 : W6.cell? ⟨g, 2, none⟩ = some (.int .i64 l.slip) := hB6.cell 2
    have c3 : W6.cell? ⟨nb, 3, none⟩ = some (.int .i64 (o0 + 1)) := Blk.cell HR6.out.1.no 3
    clear hB6
    have hkp : KeepK (fun i => i < w.heap.size ∧ i ≠ g ∧ i ≠ mb ∧ i ≠ nb) w W6 := ((HKC.out.trans (HR3.out.2.mono fun _ _ => trivial)).trans ((HR4.out.2.mono fun i hi => hi.2.2.2).trans (HR5.out.2.mono fun _ _ => trivial))).trans (HR6.out.2.mono fun i hi => hi.2.2.2)
    have HKP := Lib.hid hkp
    clear hkp
    by_cases hs : 0 < l.slip
    · go_quiet (fail)
      obtain ⟨b, hb⟩ : ∃ b, ((o0 + 1) % l.slip == 0) = b := ⟨_, rfl⟩
      rw [hb]
      clear hb
      have hk7 : KeepK (fun _ => True) W6 (W6.drewN nq) := KeepK.drewN (KeepK.refl _ _) nq
      have hR7 := HR6.out.1.keep_ hk7 (fun _ _ => trivial)
      have HR7 := Lib.hid (And.intro hR7 hk7)
      clear hR7 hk7
      cases b with
      | true =>
        go_wp2_with (fail)
        go_ret
        exact ⟨1, rfl, iff_of_false (by decide) (by have := HM.out; omega), by rw [if_neg (by have := HM.out; omega)]; exact HR7.out.1, HKP.out.trans (HR7.out.2.mono fun _ _ => trivial)⟩
      | false =>
        go_wp2_with (fail)
        go_ret
        exact ⟨2, rfl, iff_of_false (by decide) (by have := HM.out; omega), by rw [if_neg (by have := HM.out; omega)]; exact HR7.out.1, HKP.out.trans (HR7.out.2.mono fun _ _ => trivial)⟩
    · go_quiet (fail)
      have hk7 : KeepK (fun _ => True) W6 (W6.drewN nq) := KeepK.drewN (KeepK.refl _ _) nq
      have hR7 := HR6.out.1.keep_ hk7 (fun _ _ => trivial)
      have HR7 := Lib.hid (And.intro hR7 hk7)
      clear hR7 hk7
      go_wp2_with (fail)
      go_ret
      exact ⟨2, rfl, iff_of_false (by decide) (by have := HM.out; omega), by rw [if_neg (by have := HM.out; omega)]; exact HR7.out.1, HKP.out.trans (HR7.out.2.mono fun _ _ => trivial)⟩
end Go.Proofs.Ytgfpnkakglgokaa

namespace Go.Proofs.Ytgfpnkakglgokaa
open Go.RowKit Go.Lib

theorem R0.below {w w' : World} {l : Lim} {g mb : Nat} (h : R0 w l g mb) (hb : Below w.heap.size w w') : R0 w' l g mb := by
  obtain ⟨F, m1, m2⟩ := h.mp
  exact ⟨h.bx.below hb h.bx.lt, ⟨F, m1.below hb m1.lt, m2⟩, h.ne⟩
theorem R1.below {w w' : World} {l : Lim} {g mb nb : Nat} {a win hh o : Int} (h : R1 w l g mb nb a win hh o) (hb : Below w.heap.size w w') : R1 w' l g mb nb a win hh o := h.keep_ (KeepK.of_below (K := fun i => i < w.heap.size) hb fun i hi => hi) fun i hi => hi
set_option maxRecDepth 100000 in
set_option maxHeartbeats 2000000 in
theorem count0_any {w : World} {l : Lim} {a now : Int} {g mb : Nat} (h : R0 w l g mb) (hl : l.Ok) (hnow : 0 ≤ now ∧ now ≤ 9223372036854775807) :
    Calls Try.prog 10 #[.pointer (some ⟨g, 0, none⟩), .int .u32 a, .int .i64 now] w fun e w' => e = .returned (.tuple #[.int .i64 0, .int .i64 0]) ∧ Below w.heap.size w w' := by
  have k0 : w.cell? ⟨g, 0, none⟩ = some (.int .i64 l.many) := h.bx.cell 0
  have k1 : w.cell? ⟨g, 1, none⟩ = some (.int .i64 l.window) := h.bx.cell 1
  have hpi := prefixI_in a l.bits
  have HP := Lib.hid (fun W => (prefix_any a l.bits hl.bits W).mono (R' := fun e w' => e = .returned (.int .u32 (prefixI a l.bits)) ∧ Below W.heap.size W w') (by rintro e w' ⟨h1, rfl⟩; exact ⟨h1, Below.refl _ _⟩))
  generalize prefixI a l.bits = p at hpi HP
  have hlk : ∀ q : BelowOf w, (Instr.lookup 55 (.map (some mb)) (.int .u32 p) false).run Try.prog q.X = .ok (.pointer none) q.X := fun q => by
    obtain ⟨F, m1, m2⟩ := (h.below q.h).mp
    have := m1.v.look keyed32r Try.underlying55 (zero_ptrR q.X) (Maps.keyOf_int_mk Try.underlying25 (wf32r hpi))
    rw [m2 p] at this
    exact this
  have g3 : ∀ q : BelowOf w, q.X.cell? ⟨g, 3, none⟩ = some (.int .i64 l.bits) := fun q => (h.below q.h).bx.cell 3
  have g5 : ∀ q : BelowOf w, q.X.cell? ⟨g, 5, none⟩ = some (.map (some mb)) := fun q => (h.below q.h).bx.cell 5
  obtain ⟨n1, n2⟩ := hnow
  have hw1 : ¬ l.window < 1 := by have := hl.window; omega
  have hw2 : 1 ≤ l.window := by have := hl.window; omega
  have hw3 : l.window ≤ 3600 := by have := hl.window; omega
  have H := Lib.hid h
  clear h hl
  go_enter Try.func10, Try.ntmps10
  go_wp2_with (fail)
  refine wp_region_low (by kernel_rfl) (by kernel_rfl) ?_
  repeat (refine low_step (fun K hK => ?_); go_simp; first | (refine hK _ ?_; clear hK K) | (apply Exists.intro; refine ⟨fun _ => ?_, hK _ ?_⟩; exact calls_low (HP.out _); clear hK K))
  refine low_nil ?_
  rintro ⟨W5, hb5⟩
  dsimp only
  have h5 := H.out.below hb5
  have H5 := Lib.hid (And.intro h5 hb5)
  clear h5 hb5 g3 g5 hlk HP k0 k1
  go_wp2_with (fail)
  refine wp_region_low (by kernel_rfl) (by kernel_rfl) ?_
  repeat (refine low_step (fun K hK => ?_); go_simp; (refine hK _ ?_; clear hK K))
  refine low_nil ?_
  rintro ⟨W6, hb6⟩
  dsimp only
  have H7 := Lib.hid (H5.out.2.trans (hb6.mono H5.out.2.size))
  clear hb6
  go_wp2_with (fail)
  go_ret2
  exact ⟨rfl, H7.out⟩
set_option maxRecDepth 100000 in
set_option maxHeartbeats 2000000 in
theorem count1_any {w : World} {l : Lim} {a now : Int} {g mb nb : Nat} {p h0 o0 : Int} (h : R1 w l g mb nb p (now / l.window) h0 o0) (hp : p = prefixI a l.bits) (hl : l.Ok) (hnow : 0 ≤ now ∧ now ≤ 9223372036854775807) :
    Calls Try.prog 10 #[.pointer (some ⟨g, 0, none⟩), .int .u32 a, .int .i64 now] w fun e w' => e = .returned (.tuple #[.int .i64 h0, .int .i64 o0]) ∧ Below w.heap.size w w' := by
  have k0 : w.cell? ⟨g, 0, none⟩ = some (.int .i64 l.many) := h.bx.cell 0
  have k1 : w.cell? ⟨g, 1, none⟩ = some (.int .i64 l.window) := h.bx.cell 1
  have hpi := prefixI_in a l.bits
  have HP := Lib.hid (fun W => (prefix_any a l.bits hl.bits W).mono (R' := fun e w' => e = .returned (.int .u32 (prefixI a l.bits)) ∧ Below W.heap.size W w') (by rintro e w' ⟨h1, rfl⟩; exact ⟨h1, Below.refl _ _⟩))
  rw [← hp] at hpi HP
  have hlk : ∀ q : BelowOf w, (Instr.lookup 55 (.map (some mb)) (.int .u32 p) false).run Try.prog q.X = .ok (.pointer (some ⟨nb, 0, none⟩)) q.X := fun q => by
    obtain ⟨F, m1, m2⟩ := (h.below q.h).mp
    have := m1.v.look keyed32r Try.underlying55 (zero_ptrR q.X) (Maps.keyOf_int_mk Try.underlying25 (wf32r hpi))
    rw [m2 p, if_pos rfl] at this
    exact this
  have g3 : ∀ q : BelowOf w, q.X.cell? ⟨g, 3, none⟩ = some (.int .i64 l.bits) := fun q => (h.below q.h).bx.cell 3
  have g5 : ∀ q : BelowOf w, q.X.cell? ⟨g, 5, none⟩ = some (.map (some mb)) := fun q => (h.below q.h).bx.cell 5
  obtain ⟨n1, n2⟩ := hnow
  have hw1 : ¬ l.window < 1 := by have := hl.window; omega
  have hw2 : 1 ≤ l.window := by have := hl.window; omega
  have hw3 : l.window ≤ 3600 := by have := hl.window; omega
  have H := Lib.hid h
  clear h hl hp
  go_enter Try.func10, Try.ntmps10
  go_wp2_with (fail)
  refine wp_region_low (by kernel_rfl) (by kernel_rfl) ?_
  repeat (refine low_step (fun K hK => ?_); go_simp; first | (refine hK _ ?_; clear hK K) | (apply Exists.intro; refine ⟨fun _ => ?_, hK _ ?_⟩; exact calls_low (HP.out _); clear hK K))
  refine low_nil ?_
  rintro ⟨W5, hb5⟩
  dsimp only
  have h5 := H.out.below hb5
  have g1 : ∀ q : BelowOf W5, q.X.cell? ⟨g, 1, none⟩ = some (.int .i64 l.window) := fun q => (h5.below q.h).bx.cell 1
  have hmx : (if now < 0 then 0 else now) = now := if_neg (by omega)
  have hz : (l.window = 0) = False := eq_false (by omega)
  have hq : IntKind.i64.wrap (now.tdiv l.window) = now / l.window := by
    rw [Int.tdiv_eq_ediv_of_nonneg n1]
    have q1 : 0 ≤ now / l.window := Int.ediv_nonneg n1 (by omega)
    have q2 : now / l.window ≤ now := Int.ediv_le_self _ n1
    exact IntWalk.i64_in _ (by omega)
  have c1 : ∀ q : BelowOf W5, q.X.cell? ⟨nb, 1, none⟩ = some (.int .i64 (now / l.window)) := fun q => Blk.cell (h5.below q.h).no 1
  have H5 := Lib.hid (And.intro h5 hb5)
  clear h5 hb5 g3 g5 hlk HP k0 k1
  go_wp2_with (fail)
  refine wp_region_low (by kernel_rfl) (by kernel_rfl) ?_
  repeat (refine low_step (fun K hK => ?_); go_simp; (refine hK _ ?_; clear hK K))
  refine low_nil ?_
  rintro ⟨W6, hb6⟩
  dsimp only
  have h6 := H5.out.1.below hb6
  have c2 : ∀ q : BelowOf W6, q.X.cell? ⟨nb, 2, none⟩ = some (.int .i64 h0) := fun q => Blk.cell (h6.below q.h).no 2
  have c3 : ∀ q : BelowOf W6, q.X.cell? ⟨nb, 3, none⟩ = some (.int .i64 o0) := fun q => Blk.cell (h6.below q.h).no 3
  have H6 := Lib.hid (H5.out.2.trans (hb6.mono H5.out.2.size))
  clear h6 hb6 g1 c1
  go_wp2_with (fail)
  refine wp_region_low (by kernel_rfl) (by kernel_rfl) ?_
  repeat (refine low_step (fun K hK => ?_); go_simp; (refine hK _ ?_; clear hK K))
  refine low_nil ?_
  rintro ⟨W7, hb7⟩
  dsimp only
  have H7 := Lib.hid (H6.out.trans (hb7.mono H6.out.size))
  clear hb7 c2 c3
  go_wp2_with (fail)
  go_ret2
  exact ⟨rfl, H7.out⟩
end Go.Proofs.Ytgfpnkakglgokaa
