/- The walks of hardtackref05.SameList, hardtackref06.Same at what reads alike, slices.Clone at questions, scrub.many. Conditions: none. -/
import Derived.Test.YthjkdpphbipgfaaMsgS
import Derived.Shelf.Abstract
import Derived.Test.YthjkdpphbipgfaaRet
import Derived.Deep.LoopGhost
import Derived.Deep.Light
import Derived.Outline
import Derived.OwnWalk
import Derived.Test.YthjkdpphbipgfaaFlatV
import Derived.Laws.StructEq
import Derived.WalkSpells
import Derived.BigQuiet
import Derived.Deep.QuietTactic
namespace Go.Proofs.Ythjkdpphbipgfaa
open Go.RowKit Go.Shelf Go.Lib

theorem neq_rr (e : RRec) (w : World) : (binOp .neq 30 (.agg #[.string e.n, .int .u16 e.t, .int .u16 e.c, .int .u32 e.l, .string e.d]) (.agg #[.string e.n, .int .u16 e.t, .int .u16 e.c, .int .u32 e.l, .string e.d])).run Try.prog w = .ok (.bool false) w := by
  have hS : Try.prog.underlying 30 = some (.struct (Try.prog.fieldsOf 30)) := by kernel_rfl
  have hp : Try.prog.stoodInHeld 30 = false := by kernel_rfl
  have u1 := Try.underlying9
  have u2 := Try.underlying28
  have u3 := Try.underlying22
  have u4 := Try.underlying27
  have a1 := Try.isAgg9
  have a2 := Try.isAgg28
  have a3 := Try.isAgg22
  have a4 := Try.isAgg27
  have z1 := Try.sizeOf9
  have z2 := Try.sizeOf28
  have z3 := Try.sizeOf22
  have z4 := Try.sizeOf27
  rw [run_neq_struct, show (10000 : Nat) = 9999 + 1 from rfl, run_equalIn_agg w 9999 _ _ _ hS hp]
  simp only [Program.fieldsOf, Try.underlying30]
  go_simp
theorem neq_qq (e : QRec) (w : World) : (binOp .neq 63 (.agg #[.string e.n, .int .u16 e.t, .int .u16 e.c]) (.agg #[.string e.n, .int .u16 e.t, .int .u16 e.c])).run Try.prog w = .ok (.bool false) w := by
  have hS : Try.prog.underlying 63 = some (.struct (Try.prog.fieldsOf 63)) := by kernel_rfl
  have hp : Try.prog.stoodInHeld 63 = false := by kernel_rfl
  have u1 := Try.underlying9
  have u3 := Try.underlying22
  have u4 := Try.underlying27
  have a1 := Try.isAgg9
  have a3 := Try.isAgg22
  have a4 := Try.isAgg27
  have z1 := Try.sizeOf9
  have z3 := Try.sizeOf22
  have z4 := Try.sizeOf27
  rw [run_neq_struct, show (10000 : Nat) = 9999 + 1 from rfl, run_equalIn_agg w 9999 _ _ _ hS hp]
  simp only [Program.fieldsOf, Try.underlying63]
  go_simp

set_option maxHeartbeats 2000000 in
set_option maxRecDepth 100000 in
theorem sameListR_any (xs : List RRec) (A B : Option Addr) (c d : Nat) (w : World) (hA : RTab w A xs) (hB : RTab w B xs) (hl : xs.length ≤ 1000000) :
    Calls Try.prog 13 #[.slice A xs.length c, .slice B xs.length d] w fun e w' => e = .returned (.bool true) ∧ Below w.heap.size w w' := by
  have hg : Try.prog.eqGuardType Try.prog.depth 30 = false := by kernel_rfl
  have hlI : (xs.length : Int) ≤ 1000000 := by omega
  have HA := Lib.hid hA
  have HB := Lib.hid hB
  clear hA hB hl
  have hne := neq_rr
  go_enter Try.func13, Try.ntmps13
  go_wp2_with (fail)
  go_loopg [13] (xs.length + 1) (fun gg v13 wr => ∃ k q : Nat, v13 = .int .i64 (k : Int) ∧ k ≤ xs.length ∧ Aside (gg + k = xs.length + 1) ∧ wr = w.drewN q)
  case atStart => exact ⟨0, 0, rfl, by omega, rfl, rfl⟩
  case round =>
    obtain ⟨k, q, rfl, hk, hg2, rfl⟩ := hrel
    by_cases hlt : k < xs.length
    · have hltI : (k : Int) < (xs.length : Int) := by omega
      obtain ⟨e, he⟩ : ∃ e, xs[k]? = some e := ⟨_, List.getElem?_eq_getElem hlt⟩
      obtain ⟨b, off, rfl, _, d0, d1, d2, d3, d4⟩ := HA.out.cells he
      obtain ⟨b', off', rfl, _, f0, f1, f2, f3, f4⟩ := HB.out.cells he
      clear he hlt
      go_wp2_with (fail)
      go_quiet (fail)
      go_wp2_with (fail)
      go_roundg (xs.length - k)
      case measure => have := hg2.out; omega
      case rel => exact ⟨k + 1, q + nq, by go_num, by omega, (show _ = _ by omega), by first | rfl | rw [World.drewN_drewN]⟩
    · obtain rfl : k = xs.length := by omega
      clear hlt
      go_wp2_with (fail)
      go_ret
      exact ⟨rfl, below_drewN (Below.refl _ _) q⟩

set_option maxHeartbeats 4000000 in
set_option maxRecDepth 100000 in
theorem same6_any (m n : MRec) (h1 : n.id = m.id) (h2 : n.bi = m.bi) (hq : n.q = m.q) (hs : n.s = m.s) (hh : n.h = m.h) (he : n.e = m.e) (w : World) (hm : m.In w) (hn : n.In w)
    (hl : m.q.length ≤ 1000000 ∧ m.s.length ≤ 1000000 ∧ m.h.length ≤ 1000000 ∧ m.e.length ≤ 1000000) :
    Calls Try.prog 10 #[m.val, n.val] w fun e w' => e = .returned (.bool true) ∧ Below w.heap.size w w' := by
  obtain ⟨id, bi, qA, q, qc, sA, s, sc, hA, h, hc, eA, ee, ec⟩ := m
  obtain ⟨id', bi', qA', q', qc', sA', s', sc', hA', h', hc', eA', ee', ec'⟩ := n
  dsimp only at h1 h2 hq hs hh he hl
  subst h1 h2 hq hs hh he
  have hg : Try.prog.eqGuardType Try.prog.depth 63 = false := by kernel_rfl
  have hlI : (q'.length : Int) ≤ 1000000 := by omega
  have HM := Lib.hid (And.intro hm hn)
  have HL := Lib.hid hl
  clear hm hn hl
  have hne := neq_qq
  dsimp only [MRec.val]
  go_enter Try.func10, Try.ntmps10
  go_wp2_with (fail)
  obtain ⟨V, hV⟩ : ∃ V, (w.alloc (.cells #[.int .u16 id', .int .u16 bi', .slice qA q'.length qc, .slice sA s'.length sc, .slice hA h'.length hc, .slice eA ee'.length ec] 26)).alloc (.cells #[.int .u16 id', .int .u16 bi', .slice qA' q'.length qc', .slice sA' s'.length sc', .slice hA' h'.length hc', .slice eA' ee'.length ec'] 26) = V := ⟨_, rfl⟩
  have HV := Lib.hid (show Below w.heap.size w V ∧ Blk V w.heap.size 26 #[.int .u16 id', .int .u16 bi', .slice qA q'.length qc, .slice sA s'.length sc, .slice hA h'.length hc, .slice eA ee'.length ec] ∧ Blk V (w.heap.size + 1) 26 #[.int .u16 id', .int .u16 bi', .slice qA' q'.length qc', .slice sA' s'.length sc', .slice hA' h'.length hc', .slice eA' ee'.length ec'] from by
    rw [← hV]
    refine ⟨((Below.refl _ _).alloc (Nat.le_refl _) _).alloc (by simp) _, (Blk.new _ _ _).alloc _, ?_⟩
    have h1 := Blk.new (w.alloc (.cells #[.int .u16 id', .int .u16 bi', .slice qA q'.length qc, .slice sA s'.length sc, .slice hA h'.length hc, .slice eA ee'.length ec] 26)) 26 #[.int .u16 id', .int .u16 bi', .slice qA' q'.length qc', .slice sA' s'.length sc', .slice hA' h'.length hc', .slice eA' ee'.length ec']
    rw [World.size_alloc] at h1
    exact h1)
  rw [hV]
  clear hV
  go_loopg [30] (q'.length + 1) (fun gg v13 wr => ∃ k nd : Nat, v13 = .int .i64 (k : Int) ∧ k ≤ q'.length ∧ Aside (gg + k = q'.length + 1) ∧ wr = V.drewN nd)
  case atStart => exact ⟨0, 0, rfl, by omega, rfl, rfl⟩
  case round =>
    obtain ⟨k, nd, rfl, hk, hg2, rfl⟩ := hrel
    by_cases hlt : k < q'.length
    · have hltI : (k : Int) < (q'.length : Int) := by omega
      obtain ⟨e, he⟩ : ∃ e, q'[k]? = some e := ⟨_, List.getElem?_eq_getElem hlt⟩
      obtain ⟨b, off, rfl, _, d0, d1, d2⟩ := (HM.out.1.tq.below HV.out.1).cells he
      obtain ⟨b', off', rfl, _, f0, f1, f2⟩ := (HM.out.2.tq.below HV.out.1).cells he
      have x2 := HV.out.2.1.cell 2
      have y2 := HV.out.2.2.cell 2
      clear he hlt
      go_wp2_with (fail)
      go_quiet (fail)
      go_wp2_with (fail)
      go_roundg (q'.length - k)
      case measure => have := hg2.out; omega
      case rel => exact ⟨k + 1, nd + nq, by go_num, by omega, (show _ = _ by omega), by first | rfl | rw [World.drewN_drewN]⟩
    · obtain rfl : k = q'.length := by omega
      clear hlt
      obtain ⟨W, hW⟩ : ∃ W, V.drewN nd = W := ⟨_, rfl⟩
      have HW := Lib.hid (show Below w.heap.size w W ∧ Blk W w.heap.size 26 #[.int .u16 id', .int .u16 bi', .slice qA q'.length qc, .slice sA s'.length sc, .slice hA h'.length hc, .slice eA ee'.length ec] ∧ Blk W (w.heap.size + 1) 26 #[.int .u16 id', .int .u16 bi', .slice qA' q'.length qc', .slice sA' s'.length sc', .slice hA' h'.length hc', .slice eA' ee'.length ec'] from by
        rw [← hW]; exact ⟨below_drewN HV.out.1 nd, HV.out.2.1.drewN nd, HV.out.2.2.drewN nd⟩)
      rw [hW]
      clear hW
      have x3 := HW.out.2.1.cell 3
      have y3 := HW.out.2.2.cell 3
      go_wp2_with (fail)
      refine (sameListR_any s' sA sA' _ _ _ (HM.out.1.ts.below HW.out.1) (HM.out.2.ts.below HW.out.1) HL.out.2.1).mono ?_
      rintro e w1 ⟨rfl, hb1⟩
      have H1 := Lib.hid (And.intro (HW.out.1.trans (hb1.mono HW.out.1.size)) (And.intro (HW.out.2.1.below hb1 HW.out.2.1.lt) (HW.out.2.2.below hb1 HW.out.2.2.lt)))
      clear hb1 x3 y3
      have x4 := H1.out.2.1.cell 4
      have y4 := H1.out.2.2.cell 4
      go_wp2_with (fail)
      refine (sameListR_any h' hA hA' _ _ _ (HM.out.1.th.below H1.out.1) (HM.out.2.th.below H1.out.1) HL.out.2.2.1).mono ?_
      rintro e w2 ⟨rfl, hb1⟩
      have H2 := Lib.hid (And.intro (H1.out.1.trans (hb1.mono H1.out.1.size)) (And.intro (H1.out.2.1.below hb1 H1.out.2.1.lt) (H1.out.2.2.below hb1 H1.out.2.2.lt)))
      clear hb1 x4 y4
      have x5 := H2.out.2.1.cell 5
      have y5 := H2.out.2.2.cell 5
      go_wp2_with (fail)
      refine (sameListR_any ee' eA eA' _ _ _ (HM.out.1.te.below H2.out.1) (HM.out.2.te.below H2.out.1) HL.out.2.2.2).mono ?_
      rintro e w3 ⟨rfl, hb1⟩
      have H3 := Lib.hid (H2.out.1.trans (hb1.mono H2.out.1.size))
      clear hb1 x5 y5
      go_wp2_with (fail)
      go_ret
      exact ⟨rfl, H3.out⟩

theorem info_q : (Try.prog.info? 63).map (fun i => (i.zero, i.size, i.bytes)) = some (some (.agg #[.string ⟨#[]⟩, .int .u16 0, .int .u16 0]), 3, 24) := by kernel_rfl
theorem qq_one (xs : List QRec) : ∀ u ∈ flatV QRec.vs xs, u.oneCell' = true := by
  intro u hu
  obtain ⟨e, _, hu⟩ := List.mem_flatMap.1 hu
  simp only [QRec.vs, List.mem_cons, List.not_mem_nil, or_false] at hu
  rcases hu with rfl | rfl | rfl <;> rfl
def CollPostQ (L : List QRec) (w : World) (e : Ending) (w' : World) : Prop :=
  ∃ A c, e = .returned (.slice A L.length c) ∧ Sl w' 3 (.slice A L.length c) L.length (flatV QRec.vs L) ∧ (∀ g, (Value.slice A L.length c).ownBlock = some g → w.heap.size ≤ g) ∧ Below w.heap.size w w'

theorem own_fromQ {B : Nat} {w : World} {v v' : Value} (h : ∀ g, v.ownBlock = some g → B ≤ g) (hB : B ≤ w.heap.size) (hv : v'.ownBlock = v.ownBlock ∨ v'.ownBlock = some w.heap.size) : ∀ g, v'.ownBlock = some g → B ≤ g := by
  intro g hg
  rcases hv with e | e
  · exact h g (e.symm.trans hg)
  · rw [hg] at e
    have : g = w.heap.size := Option.some.inj e
    omega

theorem sl_empty_n (w : World) (t : TypeId) (size : Nat) : Sl (w.alloc (.cells #[] t)) size (.slice (some ⟨w.heap.size, 0, none⟩) 0 0) 0 [] :=
  ⟨by simp, .inr ⟨w.heap.size, 0, rfl, by simp, Nat.le_refl _, Nat.zero_le _, fun j hj => by simp at hj, fun j u hu => by simp at hu⟩⟩

set_option maxHeartbeats 1000000 in
set_option maxRecDepth 100000 in
theorem cloneQ_any (xs : List QRec) (A : Option Addr) (c : Nat) (w : World) (hT : QTabl w A xs) (hn : xs.length ≤ 8192) :
    Calls Try.prog 37 #[.slice A xs.length c] w (CollPostQ xs w) := by
  obtain ⟨i0, hi0, hz0, hz1, hz2⟩ := info_parts info_q
  cases A with
  | none =>
    have h0 : xs = [] := by
      cases xs with
      | nil => rfl
      | cons e xs => obtain ⟨_, _, h, _⟩ := hT (by simp); cases h
    subst h0
    have hq := fun w : World => Lib.run_eql_slice_nil w _ _ none 0 c 0 0 Try.underlying23
    simp only [Option.isNone_none] at hq
    clear hT
    go_enter Try.func37, Try.ntmps37
    go_wp2_with (fail)
    go_ret
    exact ⟨none, 0, rfl, Sl.nil _ _, fun g hg => by simp [Value.ownBlock] at hg, Below.refl _ _⟩
  | some a =>
    have hq := fun w : World => Lib.run_eql_slice_nil w _ _ (some a) xs.length c 0 0 Try.underlying23
    simp only [Option.isNone_some] at hq
    have HSR := Lib.hid (src_reads (P := Try.prog) (c := c) Try.underlying23 (((hT.below ((Below.refl _ w).alloc (Nat.le_refl _) (.cells #[] 63)) : QTabl (w.alloc (.cells #[] 63)) (some a) xs)).reads QRec.three (by decide)) (qq_one xs))
    have HSL := Lib.hid (sl_empty_n w 63 3)
    clear hT
    go_enter Try.func37, Try.ntmps37
    go_wp2_with (at_builtin; go_must (refine wpList_append_sl _ rfl (.tmp 5) (.tmp 6) 23 23 rfl 63 i0 (.agg #[.string ⟨#[]⟩, .int .u16 0, .int .u16 0]) 3 24 Try.underlying23 hi0 hz0 hz1 hz2 rfl (.slice (some ⟨w.heap.size, 0, none⟩) 0 0) 0 [] rfl HSL.out (.slice (some a) xs.length c) rfl xs.length (flatV QRec.vs xs) HSR.out (by unfold maxLen; omega) (by omega) ?_); intro v1 w1 hs1 hg1 hv1; rw [Nat.zero_add, List.nil_append] at hs1; obtain ⟨A3, c3, rfl, hc3, hm3⟩ := hs1.shape)
    go_ret
    refine ⟨A3, c3, rfl, hs1, own_fromQ (B := w.heap.size) (fun g hg => by simp [Value.ownBlock] at hg; omega) (by simp) hv1, ?_⟩
    exact ((Below.refl _ _).alloc (Nat.le_refl _) _).grown hg1 (by simp) (fun k hk => by simp [Value.ownBlock] at hk; omega)

set_option maxRecDepth 100000 in
theorem many_any (m : MRec) (w : World) (hl : m.s.length ≤ 1000000 ∧ m.h.length ≤ 1000000 ∧ m.e.length ≤ 1000000) :
    Calls Try.prog 48 #[m.val] w fun e w' => e = .returned (.int .i64 ((m.s.length + m.h.length + m.e.length : Nat) : Int)) ∧ Below w.heap.size w w' := by
  obtain ⟨h1, h2, h3⟩ := hl
  dsimp only [MRec.val]
  go_enter Try.func48, Try.ntmps48
  go_wp2_with (fail)
  go_ret
  exact ⟨ret_i (by omega), (Below.refl _ _).alloc (Nat.le_refl _) _⟩
end Go.Proofs.Ythjkdpphbipgfaa
