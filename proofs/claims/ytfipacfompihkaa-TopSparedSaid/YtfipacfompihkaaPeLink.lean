/- The walks of unlink and link, where one peer at most is known. Conditions: none. -/
import Derived.Test.YtfipacfompihkaaPeFail
import Derived.Deep.RegionWith
namespace Go.Proofs.Ytfipacfompihkaa
open Go.RowKit Go.Lib

theorem keyed32p : Maps.Keyed Try.prog 23 := Maps.int_keyed Try.underlying23
theorem wf32p {a : Int} (h : 0 ≤ a ∧ a ≤ 4294967295) : (Lit.int .u32 a).wf = true := by
  simp [Lit.wf, IntKind.min, IntKind.max, IntKind.signed, IntKind.bits]; omega
set_option maxRecDepth 100000 in
set_option maxHeartbeats 2000000 in
theorem unlink_any {w : World} {g mb nb n : Nat} {a f r : Int} (h : P1 w g mb nb n a f r) (ha : 0 ≤ a ∧ a ≤ 4294967295) :
    Calls Try.prog 67 #[.pointer (some ⟨g, 0, none⟩), .pointer (some ⟨nb, 0, none⟩)] w fun e w' => e = .returned (.tuple #[]) ∧ P0 w' g mb n ∧ NodeB w' nb a f r none none ∧ KeepK (fun i => i < w.heap.size ∧ i ≠ g ∧ i ≠ mb) w w' := by
  obtain ⟨F, m1, m2⟩ := h.mp
  have n0 := h.no.cell 0
  have n5 := h.no.cell 5
  have n6 := h.no.cell 6
  have g1 := h.bx.cell 1
  have g2 := h.bx.cell 2
  have g3 := h.bx.cell 3
  have f2 := h.bx.frozen 2
  have f3 := h.bx.frozen 3
  have hng := h.ne.2.1
  have hng2 : g ≠ nb := fun e => h.ne.2.1 e.symm
  obtain ⟨W2, hW2⟩ : ∃ W2, (w.setCell ⟨g, 2, none⟩ (.pointer none)).setCell ⟨g, 3, none⟩ (.pointer none) = W2 := ⟨_, rfl⟩
  have M2 : MapV Try.prog 23 W2.drew mb n F := by rw [← hW2]; exact ((m1.far (p := ⟨g, 2, none⟩) (fun e => h.ne.1 e.symm) _).far (p := ⟨g, 3, none⟩) (fun e => h.ne.1 e.symm) _).drewN 1
  obtain ⟨w9, hdel, hM9, hg9, _⟩ := M2.drop keyed32p Try.underlying83 (Maps.keyOf_int_mk Try.underlying23 (wf32p ha)) (key_int_isKey .u32 a) 0
  have H := Lib.hid (And.intro h (And.intro hM9 (And.intro hg9 (And.intro m2 hW2))))
  have hba : w.heap.size = w.heap.size := rfl
  clear h m1 m2 M2 hM9 hg9
  go_enter Try.func67, Try.ntmps67
  go_wp2_with (fail)
  have d1 : W2.cell? ⟨g, 1, none⟩ = some (.map (some mb)) := by rw [← hW2, World.cell?_setCell_other _ _ _ _ (by intro e; injection e; omega), World.cell?_setCell_other _ _ _ _ (by intro e; injection e; omega)]; exact g1
  have d0 : W2.cell? ⟨nb, 0, none⟩ = some (.int .u32 a) := by rw [← hW2, World.cell?_setCell_other _ _ _ _ (by intro e; injection e; omega), World.cell?_setCell_other _ _ _ _ (by intro e; injection e; omega)]; exact n0
  clear hW2 n0 n5 n6 g1 g2 g3 f2 f3
  first | (go_region_with (fail)) | (fail "no way")
  all_goals
    go_wp2_with (fail)
    refine bodyPost_end (results_none rfl _ _ _) rfl ?_
    obtain ⟨h, hM9, hg9, m2, hW2⟩ := H.out
    have hk : KeepK (fun i => i < w.heap.size ∧ i ≠ g ∧ i ≠ mb) w w9 := by
      have k1 : KeepK (fun i => i < w.heap.size ∧ i ≠ g ∧ i ≠ mb) w W2 := by rw [← hW2]; exact ((KeepK.refl _ w).setCell (p := ⟨g, 2, none⟩) (fun i hi => hi.2.1) _).setCell (p := ⟨g, 3, none⟩) (fun i hi => hi.2.1) _
      exact k1.drew.grown hg9 (fun i hi => Nat.lt_of_lt_of_le hi.1 k1.size) (fun i hi e => hi.2.2 (by injection e))
    refine ⟨rfl, ⟨?_, ⟨_, hM9, fun k => ?_⟩, h.ne.1⟩, ?_, hk⟩
    · have hb : Blk W2 g 86 #[.int .i64 64, .map (some mb), .pointer none, .pointer none] := by
        rw [← hW2]
        have := (h.bx.set_ 2 (.pointer none)).set_ 3 (.pointer none)
        simpa using this
      exact hb.drew.grown hg9 (fun e => h.ne.1 (by injection e))
    · split
      · rfl
      · rename_i hs
        rw [m2, if_neg]
        rintro rfl
        exact hs (WideAt.sameKey_self (key_int_isKey .u32 k))
    · have hb : NodeB W2 nb a f r none none := by
        rw [← hW2]
        exact (Blk.far h.no (p := ⟨g, 2, none⟩) hng _).far (p := ⟨g, 3, none⟩) hng _
      exact (Blk.drew hb).grown hg9 (fun e => h.ne.2.2 (by injection e))
set_option maxRecDepth 100000 in
set_option maxHeartbeats 2000000 in
theorem link_any {w : World} {g mb nb n : Nat} {a f r : Int} {u v : Option Addr} (h : P0 w g mb n) (hn : NodeB w nb a f r u v) (hne : nb ≠ g ∧ nb ≠ mb) (hm : n < 100000) (ha : 0 ≤ a ∧ a ≤ 4294967295) :
    Calls Try.prog 69 #[.pointer (some ⟨g, 0, none⟩), .pointer (some ⟨nb, 0, none⟩)] w fun e w' => e = .returned (.tuple #[]) ∧ P1 w' g mb nb (n + 1) a f r ∧ KeepK (fun i => i < w.heap.size ∧ i ≠ g ∧ i ≠ mb ∧ i ≠ nb) w w' := by
  obtain ⟨F, m1, m2⟩ := h.mp
  have n0 := hn.cell 0
  have n5 := hn.cell 5
  have n6 := hn.cell 6
  have p5 := hn.frozen 5
  have p6 := hn.frozen 6
  have g1 := h.bx.cell 1
  have g2 := h.bx.cell 2
  have g3 := h.bx.cell 3
  have f2 := h.bx.frozen 2
  have f3 := h.bx.frozen 3
  have hng := hne.1
  have hng2 : g ≠ nb := fun e => hne.1 e.symm
  obtain ⟨W2, hW2⟩ : ∃ W2, ((((w.setCell ⟨nb, 5, none⟩ (.pointer none)).setCell ⟨nb, 6, none⟩ (.pointer none)).setCell ⟨g, 3, none⟩ (.pointer (some ⟨nb, 0, none⟩))).setCell ⟨g, 2, none⟩ (.pointer (some ⟨nb, 0, none⟩))) = W2 := ⟨_, rfl⟩
  have hmg : mb ≠ g := fun e => h.ne e.symm
  have hmn : mb ≠ nb := fun e => hne.2 e.symm
  have M2 : MapV Try.prog 23 W2.drew mb n F := by rw [← hW2]; exact ((((m1.far (p := ⟨nb, 5, none⟩) hmn _).far (p := ⟨nb, 6, none⟩) hmn _).far (p := ⟨g, 3, none⟩) hmg _).far (p := ⟨g, 2, none⟩) hmg _).drewN 1
  obtain ⟨w9, hst, hM9, hg9, _⟩ := M2.store keyed32p Try.underlying83 (by unfold maxLen; omega) (Maps.keyOf_int_mk Try.underlying23 (wf32p ha)) (key_int_isKey .u32 a) (.pointer (some ⟨nb, 0, none⟩))
  have H := Lib.hid (And.intro h (And.intro hM9 (And.intro hg9 (And.intro m2 (And.intro hW2 hn)))))
  clear m1 m2 M2 hM9 hg9 hn hm
  go_enter Try.func69, Try.ntmps69
  go_wp2_with (fail)
  have B2 : Blk W2 g 86 #[.int .i64 64, .map (some mb), .pointer (some ⟨nb, 0, none⟩), .pointer (some ⟨nb, 0, none⟩)] := by
    rw [← hW2]
    have := (((Blk.far (Blk.far h.bx (p := ⟨nb, 5, none⟩) hng2 (.pointer none)) (p := ⟨nb, 6, none⟩) hng2 (.pointer none)).set_ 3 (.pointer (some ⟨nb, 0, none⟩))).set_ 2 (.pointer (some ⟨nb, 0, none⟩)))
    simpa using this
  have N2 : NodeB W2 nb a f r none none := by
    rw [← hW2]
    have := ((Blk.set_ (Blk.set_ H.out.2.2.2.2.2 5 (.pointer none)) 6 (.pointer none)).far (p := ⟨g, 3, none⟩) hng (.pointer (some ⟨nb, 0, none⟩))).far (p := ⟨g, 2, none⟩) hng (.pointer (some ⟨nb, 0, none⟩))
    simpa [NodeB] using this
  have d1 := B2.cell 1
  have d0 := Blk.cell N2 0
  have HB := Lib.hid (And.intro B2 N2)
  clear hW2 n0 n5 n6 p5 p6 g1 g2 g3 f2 f3 B2 N2 h
  first | (go_region_with (fail)) | (fail "no way")
  all_goals
    go_wp2_with (fail)
    refine bodyPost_end (results_none rfl _ _ _) rfl ?_
    obtain ⟨h, hM9, hg9, m2, hW2, _⟩ := H.out
    have hk : KeepK (fun i => i < w.heap.size ∧ i ≠ g ∧ i ≠ mb ∧ i ≠ nb) w w9 := by
      have k1 : KeepK (fun i => i < w.heap.size ∧ i ≠ g ∧ i ≠ mb ∧ i ≠ nb) w W2 := by rw [← hW2]; exact ((((KeepK.refl _ w).setCell (p := ⟨nb, 5, none⟩) (fun i hi => hi.2.2.2) _).setCell (p := ⟨nb, 6, none⟩) (fun i hi => hi.2.2.2) _).setCell (p := ⟨g, 3, none⟩) (fun i hi => hi.2.1) _).setCell (p := ⟨g, 2, none⟩) (fun i hi => hi.2.1) _
      exact k1.drew.grown hg9 (fun i hi => Nat.lt_of_lt_of_le hi.1 k1.size) (fun i hi e => hi.2.2.1 (by injection e))
    refine ⟨rfl, ⟨HB.out.1.drew.grown hg9 (fun e => hmg (by injection e with e; exact e.symm)), (Blk.drew HB.out.2).grown hg9 (fun e => hne.2 (by injection e)), ⟨_, hM9, fun k => ?_⟩, ⟨h.ne, hne.1, hne.2⟩⟩, hk⟩
    by_cases hka : k = a
    · subst hka
      rw [if_pos (WideAt.sameKey_self (key_int_isKey .u32 k)), if_pos rfl]
    · rw [if_neg hka, if_neg, m2]
      intro hs
      exact hka (by have := WideAt.sameKey_eq hs; injection this)
end Go.Proofs.Ytfipacfompihkaa
