/- The walks of pending.repeats and of the closure in Match. Conditions: none. The walks of the closure in Match, of IndexFunc at queries. Conditions: none. -/
import Derived.Test.YthjkdpphbipgfaaPendA
namespace Go.Proofs.Ythjkdpphbipgfaa
open Go.RowKit Go.Shelf Go.Lib

theorem op_any (m : MRec) (w : World) : Calls Try.prog 99 #[m.val] w fun e w' => (∃ z : Int, e = .returned (.int .i64 z)) ∧ Below w.heap.size w w' := by
  dsimp only [MRec.val]
  go_enter Try.func99, Try.ntmps99
  go_wp2
  go_ret
  exact ⟨⟨_, rfl⟩, (Below.refl _ _).alloc (Nat.le_refl _) _⟩
/-- Does the message repeat a question? -/
def RepB (m : MRec) (n : ByteArray) : Prop := ∃ q0, m.q = [q0] ∧ sameB q0.n.data.toList n.data.toList = true
set_option maxRecDepth 100000 in
set_option maxHeartbeats 4000000 in
theorem repeats_any (m : MRec) (n : ByteArray) (ty cl : Int) (w : World) (hm : m.In w) (hok : ∀ e ∈ m.q, e.n.size ≤ maxLen) (hn : n.size ≤ maxLen) :
    Calls Try.prog 69 #[m.val, .agg #[.string n, .int .u16 ty, .int .u16 cl]] w fun e w' => (∃ b : Bool, e = .returned (.bool b) ∧ (b = true → RepB m n)) ∧ Below w.heap.size w w' := by
  have HM := Lib.hid (And.intro hm (And.intro hok hn))
  clear hm hok hn
  have HOP := Lib.hid (fun W => op_any m W)
  dsimp only [MRec.val] at HOP ⊢
  go_enter Try.func69, Try.ntmps69
  by_cases hz0 : bits .and .u16 m.bi 32768 = 0
  · have e0 : (bits .and .u16 m.bi 32768 == 0) = true := by simp [hz0]
    go_wp2_with (fail)
    go_ret
    exact ⟨⟨false, rfl, fun h => by cases h⟩, ((Below.refl _ _).alloc (Nat.le_refl _) _).alloc (by simp) _⟩
  have e0 : (bits .and .u16 m.bi 32768 == 0) = false := by simp [hz0]
  go_wp2_with (fail)
  obtain ⟨V, hV⟩ : ∃ V, (w.alloc (.cells #[.int .u16 m.id, .int .u16 m.bi, .slice m.qA m.q.length m.qc, .slice m.sA m.s.length m.sc, .slice m.hA m.h.length m.hc, .slice m.eA m.e.length m.ec] 26)).alloc (.cells #[.string n, .int .u16 ty, .int .u16 cl] 63) = V := ⟨_, rfl⟩
  have HV := Lib.hid (show Below w.heap.size w V ∧ Blk V w.heap.size 26 #[.int .u16 m.id, .int .u16 m.bi, .slice m.qA m.q.length m.qc, .slice m.sA m.s.length m.sc, .slice m.hA m.h.length m.hc, .slice m.eA m.e.length m.ec] ∧ Blk V (w.heap.size + 1) 63 #[.string n, .int .u16 ty, .int .u16 cl] from by
    rw [← hV]
    have h1 := Blk.new (w.alloc (.cells #[.int .u16 m.id, .int .u16 m.bi, .slice m.qA m.q.length m.qc, .slice m.sA m.s.length m.sc, .slice m.hA m.h.length m.hc, .slice m.eA m.e.length m.ec] 26)) 63 #[.string n, .int .u16 ty, .int .u16 cl]
    rw [World.size_alloc] at h1
    exact ⟨((Below.refl _ _).alloc (Nat.le_refl _) _).alloc (by simp) _, (Blk.new w _ _).alloc _, h1⟩)
  rw [hV]
  clear hV
  with_reducible refine (HOP.out _).mono ?_
  rintro e w1 ⟨⟨z2, rfl⟩, hb⟩
  have H1 := Lib.hid (And.intro (HV.out.1.trans (hb.mono HV.out.1.size)) (And.intro (HV.out.2.1.below hb HV.out.2.1.lt) (HV.out.2.2.below hb HV.out.2.2.lt)))
  have c2 := H1.out.2.1.cell 2
  clear hb HV
  by_cases hz2 : z2 = 0
  · have e2 : (z2 != 0) = false := by simp [hz2]
    clear hz2
    by_cases hl : m.q.length = 1
    · have e3 : ((m.q.length : Int) != 1) = false := by rw [hl]; rfl
      obtain ⟨q0, hq0⟩ : ∃ q0, m.q = [q0] := List.length_eq_one_iff.1 hl
      have hlI : (0 : Int) < (m.q.length : Int) := by omega
      obtain ⟨b, off, hA, hbl, k0, k1, k2⟩ := (HM.out.1.tq.below H1.out.1).cells (k := 0) (e := q0) (by rw [hq0]; rfl)
      rw [hA] at c2 ⊢
      have hq0n := HM.out.2.1 q0 (by rw [hq0]; simp)
      have hsame := Same_any q0.n n (by unfold maxLen at hq0n; omega) (by have := HM.out.2.2; unfold maxLen at this; omega)
      have HQ := Lib.hid (And.intro hq0 hsame)
      clear hA hbl hl hq0 hsame hq0n
      simp only [Nat.zero_mul, Nat.add_zero] at k0 k1 k2
      have d0 := H1.out.2.2.cell 0
      have d1 := H1.out.2.2.cell 1
      have d2 := H1.out.2.2.cell 2
      have hd := H1.out.2.2.lt
      by_cases ht : q0.t = ty
      · have t1 : (q0.t == ty) = true := by simp [ht]
        by_cases hc : q0.c = cl
        · have t2 : (q0.c == cl) = true := by simp [hc]
          clear ht hc
          go_wp2_with (fail)
          obtain ⟨V2, hV2⟩ : ∃ V2, w1.alloc (.cells #[.string q0.n, .int .u16 q0.t, .int .u16 q0.c] 63) = V2 := ⟨_, rfl⟩
          have H2 := Lib.hid (show Below w1.heap.size w1 V2 from by rw [← hV2]; exact (Below.refl _ _).alloc (Nat.le_refl _) _)
          rw [hV2]
          clear hV2
          with_reducible refine (HQ.out.2 _).mono ?_
          rintro e w2 ⟨rfl, hb⟩
          have H3 := Lib.hid (H1.out.1.trans ((H2.out.trans (hb.mono H2.out.size)).mono H1.out.1.size))
          clear hb
          go_wp2_with (fail)
          go_ret
          exact ⟨⟨_, rfl, fun h => ⟨q0, HQ.out.1, h⟩⟩, H3.out⟩
        · have t2 : (q0.c == cl) = false := by simp [hc]
          clear ht hc
          go_wp2_with (fail)
          go_ret
          exact ⟨⟨false, rfl, fun h => by cases h⟩, H1.out.1.trans (((Below.refl _ _).alloc (Nat.le_refl _) _).mono H1.out.1.size)⟩
      · have t1 : (q0.t == ty) = false := by simp [ht]
        clear ht
        go_wp2_with (fail)
        go_ret
        exact ⟨⟨false, rfl, fun h => by cases h⟩, H1.out.1.trans (((Below.refl _ _).alloc (Nat.le_refl _) _).mono H1.out.1.size)⟩
    · have e3 : ((m.q.length : Int) != 1) = true := by
        simp only [bne_iff_ne, ne_eq]
        omega
      clear hl
      go_wp2_with (fail)
      go_ret
      exact ⟨⟨false, rfl, fun h => by cases h⟩, H1.out.1⟩
  · have e2 : (z2 != 0) = true := by simp [hz2]
    clear hz2
    go_wp2_with (fail)
    go_ret
    exact ⟨⟨false, rfl, fun h => by cases h⟩, H1.out.1⟩
end Go.Proofs.Ythjkdpphbipgfaa

namespace Go.Proofs.Ythjkdpphbipgfaa
open Go.RowKit Go.Shelf Go.Lib

theorem eql_place (i p a : Int) (t : Bool) (i' p' a' : Int) (t' : Bool) : ∃ r : Bool, (∀ w, (binOp .eql 117 (.agg #[.int .u16 i, .int .u16 p, .int .u32 a, .bool t]) (.agg #[.int .u16 i', .int .u16 p', .int .u32 a', .bool t'])).run Try.prog w = .ok (.bool r) w) ∧ (r = true → i = i' ∧ p = p' ∧ a = a' ∧ t = t') := by
  have hS : Try.prog.underlying 117 = some (.struct (Try.prog.fieldsOf 117)) := by kernel_rfl
  have hp : Try.prog.stoodInHeld 117 = false := by kernel_rfl
  have u1 := Try.underlying4
  have u2 := Try.underlying28
  have u3 := Try.underlying22
  have a1 := Try.isAgg4
  have a2 := Try.isAgg28
  have a3 := Try.isAgg22
  have z1 := Try.sizeOf4
  have z2 := Try.sizeOf28
  have z3 := Try.sizeOf22
  by_cases hab : i = i' ∧ p = p' ∧ a = a' ∧ t = t'
  · obtain ⟨rfl, rfl, rfl, rfl⟩ := hab
    refine ⟨true, fun w => ?_, fun _ => ⟨rfl, rfl, rfl, rfl⟩⟩
    rw [run_eql_struct, show (10000 : Nat) = 9999 + 1 from rfl, run_equalIn_agg w 9999 _ _ _ hS hp]
    simp only [Program.fieldsOf, Try.underlying117]
    go_simp
  · refine ⟨false, fun w => ?_, fun h => by cases h⟩
    rw [run_eql_struct, show (10000 : Nat) = 9999 + 1 from rfl, run_equalIn_agg w 9999 _ _ _ hS hp]
    simp only [Program.fieldsOf, Try.underlying117]
    go_simp
    intro h1 h2 h3 h4
    exact hab ⟨h1, h2, h3, h4⟩
/-- The query fits. -/
structure Fits (m : MRec) (i p a : Int) (t : Bool) (q : QY) : Prop where
  i : q.i = i
  p : q.p = p
  a : q.a = a
  t : q.tcp = t
  r : RepB m q.n
  nb : q.n.size ≤ maxLen
def MsgB (w : World) (g : Nat) (m : MRec) : Prop := Blk w g 26 #[.int .u16 m.id, .int .u16 m.bi, .slice m.qA m.q.length m.qc, .slice m.sA m.s.length m.sc, .slice m.hA m.h.length m.hc, .slice m.eA m.e.length m.ec]
def PlB (w : World) (g : Nat) (i p a : Int) (t : Bool) : Prop := Blk w g 117 #[.int .u16 i, .int .u16 p, .int .u32 a, .bool t]
set_option maxRecDepth 100000 in
set_option maxHeartbeats 4000000 in
theorem match1_any (q : QY) (m : MRec) (i p a : Int) (t : Bool) (Bp Bm : Nat) (w : World) (hq : q.Ok) (hm : m.In w) (hok : ∀ e ∈ m.q, e.n.size ≤ maxLen) (h1 : PlB w Bp i p a t) (h2 : MsgB w Bm m) :
    Calls Try.prog 68 #[q.val, .pointer (some ⟨Bp, 0, none⟩), .pointer (some ⟨Bm, 0, none⟩)] w fun e w' => (∃ b : Bool, e = .returned (.bool b) ∧ (b = true → Fits m i p a t q)) ∧ Below w.heap.size w w' := by
  have HP := Lib.hid (fun W => placeOf_any q W)
  have HR := Lib.hid (fun W (hW : Below w.heap.size w W) => repeats_any m q.n q.ty q.cl W (hm.below hW) hok hq.n)
  have HB := Lib.hid (And.intro h1 h2)
  obtain ⟨r, hr, hr2⟩ := eql_place q.i q.p q.a q.tcp i p a t
  have HF := Lib.hid hr2
  have HN := Lib.hid hq.n
  clear h1 h2 hm hok hq hr2
  dsimp only [MRec.val, QY.val, plV] at HP HR ⊢
  go_enter Try.func68, Try.ntmps68
  go_wp2_with (fail)
  obtain ⟨V, hV⟩ : ∃ V, w.alloc (.cells #[.int .u16 q.i, .int .u16 q.p, .int .u32 q.a, .string q.n, .int .u16 q.ty, .int .u16 q.cl, .string q.ck, .bool q.tcp, .int .i64 q.du, .int .i64 q.ta] 65) = V := ⟨_, rfl⟩
  have HV := Lib.hid (show Below w.heap.size w V ∧ Blk V w.heap.size 65 #[.int .u16 q.i, .int .u16 q.p, .int .u32 q.a, .string q.n, .int .u16 q.ty, .int .u16 q.cl, .string q.ck, .bool q.tcp, .int .i64 q.du, .int .i64 q.ta] from by
    rw [← hV]; exact ⟨(Below.refl _ _).alloc (Nat.le_refl _) _, Blk.new _ _ _⟩)
  rw [hV]
  clear hV
  have KA := Lib.hid (fun W (hW : Below V.heap.size V W) => show (Blk W w.heap.size 65 #[.int .u16 q.i, .int .u16 q.p, .int .u32 q.a, .string q.n, .int .u16 q.ty, .int .u16 q.cl, .string q.ck, .bool q.tcp, .int .i64 q.du, .int .i64 q.ta] ∧ PlB W Bp i p a t ∧ MsgB W Bm m) from
    ⟨HV.out.2.below hW HV.out.2.lt, (HB.out.1.below HV.out.1 HB.out.1.lt).below hW (HB.out.1.below HV.out.1 HB.out.1.lt).lt, (HB.out.2.below HV.out.1 HB.out.2.lt).below hW (HB.out.2.below HV.out.1 HB.out.2.lt).lt⟩)
  have HP' := Lib.hid (fun W (hW : Below V.heap.size V W) => (HP.out W).mono fun e w' (h : _ ∧ _) => And.intro h.1 (hW.trans (h.2.mono hW.size)))
  have HR' := Lib.hid (fun W (hW : Below V.heap.size V W) => (HR.out W (HV.out.1.trans (hW.mono HV.out.1.size))).mono fun e w' (h : _ ∧ _) => And.intro h.1 (hW.trans (h.2.mono hW.size)))
  clear HP HR HB
  have R0 : Below V.heap.size V V := Below.refl _ _
  have z0 := (KA.out V R0).1.cell 0
  have z1 := (KA.out V R0).1.cell 1
  have z2 := (KA.out V R0).1.cell 2
  have z3 := (KA.out V R0).1.cell 3
  have z4 := (KA.out V R0).1.cell 4
  have z5 := (KA.out V R0).1.cell 5
  have z6 := (KA.out V R0).1.cell 6
  have z7 := (KA.out V R0).1.cell 7
  have z8 := (KA.out V R0).1.cell 8
  have z9 := (KA.out V R0).1.cell 9
  have y0 := (KA.out V R0).2.1.cell 0
  have y1 := (KA.out V R0).2.1.cell 1
  have y2 := (KA.out V R0).2.1.cell 2
  have y3 := (KA.out V R0).2.1.cell 3
  cases r with
  | false =>
    clear HR'
    first | (go_region_with (first
      | (go_at_call 66; refine (HP'.out _ (by first | exact R0 | exact R0.drew | exact R0.drew.drew | exact R0.drew.drew.drew)).mono ?_; rintro e w1 ⟨rfl, hb⟩; have x0 := (KA.out _ hb).2.1.cell 0; have x1 := (KA.out _ hb).2.1.cell 1; have x2 := (KA.out _ hb).2.1.cell 2; have x3 := (KA.out _ hb).2.1.cell 3))) | (fail "no way")
    all_goals
      go_wp2_with (fail)
      go_ret
      exact ⟨⟨false, rfl, fun h => by cases h⟩, HV.out.1.trans (Below.mono (by assumption) HV.out.1.size)⟩
  | true =>
    have m0 := (KA.out V R0).2.2.cell 0
    have m1 := (KA.out V R0).2.2.cell 1
    have m2 := (KA.out V R0).2.2.cell 2
    have m3 := (KA.out V R0).2.2.cell 3
    have m4 := (KA.out V R0).2.2.cell 4
    have m5 := (KA.out V R0).2.2.cell 5
    first | (go_region_with (first
      | (go_at_call 66; refine (HP'.out _ (by first | exact R0 | exact R0.drew | exact R0.drew.drew | exact R0.drew.drew.drew)).mono ?_; rintro e w1 ⟨rfl, hb⟩; have x0 := (KA.out _ hb).2.1.cell 0; have x1 := (KA.out _ hb).2.1.cell 1; have x2 := (KA.out _ hb).2.1.cell 2; have x3 := (KA.out _ hb).2.1.cell 3; have u0 := (KA.out _ hb).2.2.cell 0; have u1 := (KA.out _ hb).2.2.cell 1; have u2 := (KA.out _ hb).2.2.cell 2; have u3 := (KA.out _ hb).2.2.cell 3; have u4 := (KA.out _ hb).2.2.cell 4; have u5 := (KA.out _ hb).2.2.cell 5; have s0 := (KA.out _ hb).1.cell 0; have s1 := (KA.out _ hb).1.cell 1; have s2 := (KA.out _ hb).1.cell 2; have s3 := (KA.out _ hb).1.cell 3; have s4 := (KA.out _ hb).1.cell 4; have s5 := (KA.out _ hb).1.cell 5; have s6 := (KA.out _ hb).1.cell 6; have s7 := (KA.out _ hb).1.cell 7; have s8 := (KA.out _ hb).1.cell 8; have s9 := (KA.out _ hb).1.cell 9)
      | (go_at_call 69; refine (HR'.out _ (by first | exact hb | exact hb.drew | exact hb.drew.drew)).mono ?_; rintro e w2 ⟨⟨bb, rfl, hbb⟩, hb2⟩))) | (fail "no way")
    all_goals
      go_wp2_with (fail)
      go_ret
      exact ⟨⟨_, rfl, fun h => ⟨(HF.out (by trivial)).1, (HF.out (by trivial)).2.1, (HF.out (by trivial)).2.2.1, (HF.out (by trivial)).2.2.2, hbb h, HN.out⟩⟩, HV.out.1.trans (Below.mono (by assumption) HV.out.1.size)⟩
end Go.Proofs.Ythjkdpphbipgfaa
