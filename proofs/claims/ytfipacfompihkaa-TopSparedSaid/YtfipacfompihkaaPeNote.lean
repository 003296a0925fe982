/- The walks of note, Fail and Good, where one peer at most is known. Conditions: none. -/
import Derived.Test.YtfipacfompihkaaPeLink
namespace Go.Proofs.Ytfipacfompihkaa
open Go.RowKit Go.Lib

set_option maxRecDepth 100000 in
theorem zero_ptrP (w : World) : (zeroValue 84).run Try.prog w = .ok (.pointer none) w := by rfl
theorem P1.turn {w w' : World} {g mb nb n : Nat} {a f r f' r' : Int} (h : P1 w g mb nb n a f r) (hn : NodeB w' nb a f' r' none none) (hk : KeepK (fun i => i < w.heap.size ∧ i ≠ nb) w w') : P1 w' g mb nb n a f' r' := by
  obtain ⟨F, m1, m2⟩ := h.mp
  exact ⟨h.bx.keepK hk ⟨h.bx.lt, fun e => h.ne.2.1 e.symm⟩, hn, ⟨F, m1.keepK hk ⟨m1.lt, fun e => h.ne.2.2 e.symm⟩, m2⟩, h.ne⟩
theorem note_keep {w V w2 w3 : World} {g mb nb : Nat} (hb : Below w.heap.size w V) (hn : w.heap.size ≤ nb) (h2 : KeepK (fun i => i < V.heap.size ∧ i ≠ g ∧ i ≠ mb ∧ i ≠ nb) V w2) (h3 : KeepK (fun i => i < w2.heap.size ∧ i ≠ nb) w2 w3) : KeepK (fun i => i < w.heap.size ∧ i ≠ g ∧ i ≠ mb) w w3 := by
  have z1 := hb.size
  have z2 := h2.size
  exact ((KeepK.of_below hb fun i hi => hi.1).trans (KeepK.mono h2 fun i hi => ⟨by have := hi.1; omega, hi.2.1, hi.2.2, by have := hi.1; omega⟩)).trans (KeepK.mono h3 fun i hi => ⟨by have := hi.1; omega, by have := hi.1; omega⟩)
/-- What a note leaves: one is known. -/
def NoteP (w : World) (g mb n : Nat) (a : Int) (R : Int → Int → Prop) (e : Ending) (w' : World) : Prop :=
  e = .returned (.bool true) ∧ (∃ nb f r, P1 w' g mb nb (n + 1) a f r ∧ R f r ∧ w.heap.size ≤ nb) ∧ KeepK (fun i => i < w.heap.size ∧ i ≠ g ∧ i ≠ mb) w w'
set_option maxRecDepth 100000 in
set_option maxHeartbeats 2000000 in
theorem noteGood0 {w : World} {g mb : Nat} (h : P0 w g mb 0) (a : Int) (ha : 0 ≤ a ∧ a ≤ 4294967295) :
    Calls Try.prog 31 #[.pointer (some ⟨g, 0, none⟩), .int .u32 a, .func (.func 39) #[] #[]] w (NoteP w g mb 0 a fun f r => f = 0 ∧ r = 0) := by
  obtain ⟨F, m1, m2⟩ := h.mp
  have g1 := h.bx.cell 1
  have g0 := h.bx.cell 0
  have hlk : (Instr.lookup 83 (.map (some mb)) (.int .u32 a) false).run Try.prog w = .ok (.pointer none) w := by
    have := m1.look keyed32p Try.underlying83 (zero_ptrP w) (Maps.keyOf_int_mk Try.underlying23 (wf32p ha))
    rw [m2 a] at this
    exact this
  have hlen : ∀ ty k, (Builtin.len_ #[83] ty #[.map (some mb)]).run Try.prog (w.drewN k) = .ok (.int .i64 0) (w.drewN k) := fun ty k => by
    obtain ⟨D, h1, h2⟩ := m1
    have e := World.ownsMap.len (show World.ownsMap (w.drewN k) _ _ _ _ _ _ from h1) Try.underlying83 ty
    have := h1.size_le
    rw [show Maps.size D = 0 by omega] at e
    exact e
  have H := Lib.hid h
  clear h m1 m2
  go_enter Try.func31, Try.ntmps31
  go_wp2_with (fail)
  go_quiet (fail)
  obtain ⟨W, hW⟩ : ∃ W, w.drewN nq = W := ⟨_, rfl⟩
  have hb : Below w.heap.size w W := by rw [← hW]; exact below_drewN (Below.refl _ _) nq
  rw [hW]
  have HP := Lib.hid (show P0 W g mb 0 ∧ Below w.heap.size w W from by
    obtain ⟨F, m1, m2⟩ := H.out.mp
    exact ⟨⟨H.out.bx.below hb H.out.bx.lt, ⟨F, m1.below hb m1.lt, m2⟩, H.out.ne⟩, hb⟩)
  clear hW hb g0 g1 hlk hlen
  go_wp2_with (fail)
  obtain ⟨V, hV⟩ : ∃ V, W.alloc (.cells #[.int .u32 a, .string ⟨#[]⟩, .bool false, .int .i64 0, .int .i64 0, .pointer none, .pointer none] 98) = V := ⟨_, rfl⟩
  obtain ⟨nb, hnb⟩ : ∃ nb, W.heap.size = nb := ⟨_, rfl⟩
  have HV := Lib.hid (show P0 V g mb 0 ∧ NodeB V nb a 0 0 none none ∧ Below w.heap.size w V ∧ w.heap.size ≤ nb ∧ nb ≠ g ∧ nb ≠ mb from by
    obtain ⟨h, hb⟩ := HP.out
    obtain ⟨F, m1, m2⟩ := h.mp
    have b2 : Below W.heap.size W V := by rw [← hV]; exact (Below.refl _ _).alloc (Nat.le_refl _) _
    refine ⟨⟨h.bx.below b2 h.bx.lt, ⟨F, m1.below b2 m1.lt, m2⟩, h.ne⟩, ?_, hb.trans (b2.mono hb.size), by rw [← hnb]; exact hb.size, fun e => by have := h.bx.lt; omega, fun e => by have := m1.lt; omega⟩
    rw [← hV, ← hnb]
    exact Blk.new _ _ _)
  rw [hV, hnb]
  clear hV hnb HP
  have HL := Lib.hid (link_any HV.out.1 HV.out.2.1 HV.out.2.2.2.2 (by omega) ha)
  with_reducible refine HL.out.mono ?_
  rintro e w2 ⟨rfl, hp, hk⟩
  have H2 := Lib.hid (And.intro hp hk)
  have HG := Lib.hid (good1_any nb a 0 0 none none w2 hp.no)
  clear hp hk HL
  go_wp2_with (fail)
  with_reducible refine HG.out.mono ?_
  rintro e w3 ⟨rfl, hn3, hk3⟩
  have H3 := Lib.hid (And.intro hn3 hk3)
  clear hn3 hk3 HG
  go_wp2_with (fail)
  go_ret
  obtain ⟨hp, hk⟩ := H2.out
  obtain ⟨hn3, hk3⟩ := H3.out
  exact ⟨rfl, ⟨nb, 0, 0, hp.turn hn3 hk3, ⟨rfl, rfl⟩, HV.out.2.2.2.1⟩, note_keep HV.out.2.2.1 HV.out.2.2.2.1 hk hk3⟩
set_option maxRecDepth 100000 in
set_option maxHeartbeats 2000000 in
theorem noteFail0 {w : World} {g mb : Nat} (h : P0 w g mb 0) (a : Int) (ha : 0 ≤ a ∧ a ≤ 4294967295) (bn : Nat) (now : Int) (hnow : 0 ≤ now ∧ now ≤ 1099511627776) (hc : w.cell? ⟨bn, 0, none⟩ = some (.int .i64 now)) (hbn : bn < w.heap.size ∧ bn ≠ g ∧ bn ≠ mb) :
    Calls Try.prog 31 #[.pointer (some ⟨g, 0, none⟩), .int .u32 a, .func (.func 32) #[] #[.pointer (some ⟨bn, 0, none⟩)]] w (NoteP w g mb 0 a fun f r => (0 ≤ f ∧ f ≤ 30) ∧ now < r ∧ r ≤ now + 900) := by
  obtain ⟨F, m1, m2⟩ := h.mp
  have g1 := h.bx.cell 1
  have g0 := h.bx.cell 0
  have hlk : (Instr.lookup 83 (.map (some mb)) (.int .u32 a) false).run Try.prog w = .ok (.pointer none) w := by
    have := m1.look keyed32p Try.underlying83 (zero_ptrP w) (Maps.keyOf_int_mk Try.underlying23 (wf32p ha))
    rw [m2 a] at this
    exact this
  have hlen : ∀ ty k, (Builtin.len_ #[83] ty #[.map (some mb)]).run Try.prog (w.drewN k) = .ok (.int .i64 0) (w.drewN k) := fun ty k => by
    obtain ⟨D, h1, h2⟩ := m1
    have e := World.ownsMap.len (show World.ownsMap (w.drewN k) _ _ _ _ _ _ from h1) Try.underlying83 ty
    have := h1.size_le
    rw [show Maps.size D = 0 by omega] at e
    exact e
  have H := Lib.hid h
  clear h m1 m2
  go_enter Try.func31, Try.ntmps31
  go_wp2_with (fail)
  go_quiet (fail)
  obtain ⟨W, hW⟩ : ∃ W, w.drewN nq = W := ⟨_, rfl⟩
  have hb : Below w.heap.size w W := by rw [← hW]; exact below_drewN (Below.refl _ _) nq
  rw [hW]
  have HP := Lib.hid (show P0 W g mb 0 ∧ Below w.heap.size w W from by
    obtain ⟨F, m1, m2⟩ := H.out.mp
    exact ⟨⟨H.out.bx.below hb H.out.bx.lt, ⟨F, m1.below hb m1.lt, m2⟩, H.out.ne⟩, hb⟩)
  clear hW hb g0 g1 hlk hlen
  go_wp2_with (fail)
  obtain ⟨V, hV⟩ : ∃ V, W.alloc (.cells #[.int .u32 a, .string ⟨#[]⟩, .bool false, .int .i64 0, .int .i64 0, .pointer none, .pointer none] 98) = V := ⟨_, rfl⟩
  obtain ⟨nb, hnb⟩ : ∃ nb, W.heap.size = nb := ⟨_, rfl⟩
  have HV := Lib.hid (show P0 V g mb 0 ∧ NodeB V nb a 0 0 none none ∧ Below w.heap.size w V ∧ w.heap.size ≤ nb ∧ nb ≠ g ∧ nb ≠ mb from by
    obtain ⟨h, hb⟩ := HP.out
    obtain ⟨F, m1, m2⟩ := h.mp
    have b2 : Below W.heap.size W V := by rw [← hV]; exact (Below.refl _ _).alloc (Nat.le_refl _) _
    refine ⟨⟨h.bx.below b2 h.bx.lt, ⟨F, m1.below b2 m1.lt, m2⟩, h.ne⟩, ?_, hb.trans (b2.mono hb.size), by rw [← hnb]; exact hb.size, fun e => by have := h.bx.lt; omega, fun e => by have := m1.lt; omega⟩
    rw [← hV, ← hnb]
    exact Blk.new _ _ _)
  rw [hV, hnb]
  clear hV hnb HP
  have HL := Lib.hid (link_any HV.out.1 HV.out.2.1 HV.out.2.2.2.2 (by omega) ha)
  with_reducible refine HL.out.mono ?_
  rintro e w2 ⟨rfl, hp, hk⟩
  have H2 := Lib.hid (And.intro hp hk)
  have hzz := HV.out.2.2.1.size
  have hcn : w2.cell? ⟨bn, 0, none⟩ = some (.int .i64 now) := (hk.cell (p := ⟨bn, 0, none⟩) ⟨by have := hbn.1; show bn < _; omega, hbn.2.1, hbn.2.2, by have := HV.out.2.2.2.1; have := hbn.1; show bn ≠ nb; omega⟩).trans ((HV.out.2.2.1.cell (p := ⟨bn, 0, none⟩) hbn.1).trans hc)
  have HG := Lib.hid (fail1_any nb bn a 0 0 now none none w2 hp.no (by omega) hnow hcn (by have := HV.out.2.2.2.1; have := hbn.1; omega))
  clear hp hk HL
  go_wp2_with (fail)
  with_reducible refine HG.out.mono ?_
  rintro e w3 ⟨rfl, ⟨f3, r3, hn3, q1, q2, q3, q4⟩, hk3⟩
  have H3 := Lib.hid (And.intro hn3 hk3)
  clear hn3 hk3 HG
  go_wp2_with (fail)
  go_ret
  obtain ⟨hp, hk⟩ := H2.out
  obtain ⟨hn3, hk3⟩ := H3.out
  exact ⟨rfl, ⟨nb, f3, r3, hp.turn hn3 hk3, ⟨⟨q1, q2⟩, q3, q4⟩, HV.out.2.2.2.1⟩, note_keep HV.out.2.2.1 HV.out.2.2.2.1 hk hk3⟩
set_option maxRecDepth 100000 in
set_option maxHeartbeats 2000000 in
theorem noteGood1 {w : World} {g mb nb n : Nat} {a f0 r0 : Int} (h : P1 w g mb nb n a f0 r0) (hn : n < 100000) (ha : 0 ≤ a ∧ a ≤ 4294967295) :
    Calls Try.prog 31 #[.pointer (some ⟨g, 0, none⟩), .int .u32 a, .func (.func 39) #[] #[]] w fun e w' => e = .returned (.bool true) ∧ (∃ f r, P1 w' g mb nb (n + 1) a f r ∧ f = 0 ∧ r = 0) ∧ KeepK (fun i => i < w.heap.size ∧ i ≠ g ∧ i ≠ mb ∧ i ≠ nb) w w' := by
  obtain ⟨F, m1, m2⟩ := h.mp
  have g1 := h.bx.cell 1
  have hlk : (Instr.lookup 83 (.map (some mb)) (.int .u32 a) false).run Try.prog w = .ok (.pointer (some ⟨nb, 0, none⟩)) w := by
    have := m1.look keyed32p Try.underlying83 (zero_ptrP w) (Maps.keyOf_int_mk Try.underlying23 (wf32p ha))
    rw [m2 a, if_pos rfl] at this
    exact this
  have H := Lib.hid h
  have HU := Lib.hid (unlink_any h ha)
  clear h m1 m2
  go_enter Try.func31, Try.ntmps31
  go_wp2_with (fail)
  with_reducible refine HU.out.mono ?_
  rintro e w1 ⟨rfl, hp0, hn0, hk1⟩
  have H1 := Lib.hid hk1
  have HL := Lib.hid (link_any hp0 hn0 ⟨H.out.ne.2.1, H.out.ne.2.2⟩ hn ha)
  clear hp0 hn0 hk1 HU g1 hlk
  go_wp2_with (fail)
  with_reducible refine HL.out.mono ?_
  rintro e w2 ⟨rfl, hp, hk⟩
  have H2 := Lib.hid (And.intro hp hk)
  have HG := Lib.hid (good1_any nb a f0 r0 none none w2 hp.no)
  clear hp hk HL
  go_wp2_with (fail)
  with_reducible refine HG.out.mono ?_
  rintro e w3 ⟨rfl, hn3, hk3⟩
  have H3 := Lib.hid (And.intro hn3 hk3)
  clear hn3 hk3 HG
  go_wp2_with (fail)
  go_ret
  obtain ⟨hp, hk⟩ := H2.out
  obtain ⟨hn3, hk3⟩ := H3.out
  have z1 := H1.out.size
  have z2 := hk.size
  exact ⟨rfl, ⟨0, 0, hp.turn hn3 hk3, rfl, rfl⟩, ((KeepK.mono H1.out fun i hi => ⟨hi.1, hi.2.1, hi.2.2.1⟩).trans (KeepK.mono hk fun i hi => ⟨by have := hi.1; omega, hi.2.1, hi.2.2.1, hi.2.2.2⟩)).trans (KeepK.mono hk3 fun i hi => ⟨by have := hi.1; omega, hi.2.2.2⟩)⟩
set_option maxRecDepth 100000 in
set_option maxHeartbeats 2000000 in
theorem noteFail1 {w : World} {g mb nb n : Nat} {a f0 r0 : Int} (h : P1 w g mb nb n a f0 r0) (hn : n < 100000) (ha : 0 ≤ a ∧ a ≤ 4294967295) (hf : 0 ≤ f0 ∧ f0 ≤ 30) (bn : Nat) (now : Int) (hnow : 0 ≤ now ∧ now ≤ 1099511627776) (hc : w.cell? ⟨bn, 0, none⟩ = some (.int .i64 now)) (hbn : bn < w.heap.size ∧ bn ≠ g ∧ bn ≠ mb ∧ bn ≠ nb) :
    Calls Try.prog 31 #[.pointer (some ⟨g, 0, none⟩), .int .u32 a, .func (.func 32) #[] #[.pointer (some ⟨bn, 0, none⟩)]] w fun e w' => e = .returned (.bool true) ∧ (∃ f r, P1 w' g mb nb (n + 1) a f r ∧ (0 ≤ f ∧ f ≤ 30) ∧ now < r ∧ r ≤ now + 900) ∧ KeepK (fun i => i < w.heap.size ∧ i ≠ g ∧ i ≠ mb ∧ i ≠ nb) w w' := by
  obtain ⟨F, m1, m2⟩ := h.mp
  have g1 := h.bx.cell 1
  have hlk : (Instr.lookup 83 (.map (some mb)) (.int .u32 a) false).run Try.prog w = .ok (.pointer (some ⟨nb, 0, none⟩)) w := by
    have := m1.look keyed32p Try.underlying83 (zero_ptrP w) (Maps.keyOf_int_mk Try.underlying23 (wf32p ha))
    rw [m2 a, if_pos rfl] at this
    exact this
  have H := Lib.hid h
  have HU := Lib.hid (unlink_any h ha)
  clear h m1 m2
  go_enter Try.func31, Try.ntmps31
  go_wp2_with (fail)
  with_reducible refine HU.out.mono ?_
  rintro e w1 ⟨rfl, hp0, hn0, hk1⟩
  have H1 := Lib.hid hk1
  have HL := Lib.hid (link_any hp0 hn0 ⟨H.out.ne.2.1, H.out.ne.2.2⟩ hn ha)
  clear hp0 hn0 hk1 HU g1 hlk
  go_wp2_with (fail)
  with_reducible refine HL.out.mono ?_
  rintro e w2 ⟨rfl, hp, hk⟩
  have H2 := Lib.hid (And.intro hp hk)
  have hz1 := H1.out.size
  have hcn : w2.cell? ⟨bn, 0, none⟩ = some (.int .i64 now) := (hk.cell (p := ⟨bn, 0, none⟩) ⟨by have := hbn.1; show bn < _; omega, hbn.2.1, hbn.2.2.1, hbn.2.2.2⟩).trans ((H1.out.cell (p := ⟨bn, 0, none⟩) ⟨hbn.1, hbn.2.1, hbn.2.2.1⟩).trans hc)
  have HG := Lib.hid (fail1_any nb bn a f0 r0 now none none w2 hp.no hf hnow hcn hbn.2.2.2)
  clear hp hk HL
  go_wp2_with (fail)
  with_reducible refine HG.out.mono ?_
  rintro e w3 ⟨rfl, ⟨f3, r3, hn3, q1, q2, q3, q4⟩, hk3⟩
  have H3 := Lib.hid (And.intro hn3 hk3)
  clear hn3 hk3 HG
  go_wp2_with (fail)
  go_ret
  obtain ⟨hp, hk⟩ := H2.out
  obtain ⟨hn3, hk3⟩ := H3.out
  have z1 := H1.out.size
  have z2 := hk.size
  exact ⟨rfl, ⟨f3, r3, hp.turn hn3 hk3, ⟨q1, q2⟩, q3, q4⟩, ((KeepK.mono H1.out fun i hi => ⟨hi.1, hi.2.1, hi.2.2.1⟩).trans (KeepK.mono hk fun i hi => ⟨by have := hi.1; omega, hi.2.1, hi.2.2.1, hi.2.2.2⟩)).trans (KeepK.mono hk3 fun i hi => ⟨by have := hi.1; omega, hi.2.2.2⟩)⟩
end Go.Proofs.Ytfipacfompihkaa
