/- Messages that are small: plain. Conditions: none. The walk of hardtacklaw06.Small. Conditions: none. -/
import Derived.Test.YtfipacfompihkaaRR
import Derived.Shelf.Abstract
import Derived.Test.YtfipacfompihkaaRet
import Derived.Deep.LoopGhost
import Derived.Deep.Light
import Derived.Deep.QuietTactic
import Derived.BigQuiet
import Derived.Outline
import Derived.OwnWalk
namespace Go.Proofs.Ytfipacfompihkaa
open Go.RowKit Go.Lib

def RRec.small (r : RRec) : Prop := r.n.size ≤ 1000 ∧ r.d.size ≤ 5000
structure MRec.Small (m : MRec) : Prop where
  lq : m.q.length ≤ 20
  ls : m.s.length ≤ 20
  lh : m.h.length ≤ 20
  le : m.e.length ≤ 20
  sq : ∀ e ∈ m.q, e.n.size ≤ 1000
  ss : ∀ e ∈ m.s, e.small
  sh : ∀ e ∈ m.h, e.small
  se : ∀ e ∈ m.e, e.small
theorem take_at {α : Type} {xs : List α} {i : Nat} {x : α} (hi : xs[i]? = some x) : xs.take (i + 1) = xs.take i ++ [x] := by
  obtain ⟨h, rfl⟩ := List.getElem?_eq_some_iff.1 hi
  rw [List.take_succ_eq_append_getElem h]
end Go.Proofs.Ytfipacfompihkaa

namespace Go.Proofs.Ytfipacfompihkaa
open Go.RowKit Go.Shelf Go.Lib

theorem allr_step {xs : List RRec} {j : Nat} {r : RRec} (h : ∀ e ∈ xs.take j, e.small) (hr : xs[j]? = some r) (hs : r.small) : ∀ e ∈ xs.take (j + 1), e.small := by
  rw [take_at hr]
  intro e he
  rcases List.mem_append.1 he with he | he
  · exact h e he
  · rw [List.mem_singleton.1 he]; exact hs
theorem allq_step {xs : List QRec} {j : Nat} {r : QRec} (h : ∀ e ∈ xs.take j, e.n.size ≤ 1000) (hr : xs[j]? = some r) (hs : r.n.size ≤ 1000) : ∀ e ∈ xs.take (j + 1), e.n.size ≤ 1000 := by
  rw [take_at hr]
  intro e he
  rcases List.mem_append.1 he with he | he
  · exact h e he
  · rw [List.mem_singleton.1 he]; exact hs
def SmallPost (m : MRec) (w : World) (e : Ending) (w' : World) : Prop := (e = .returned (.int .i64 0) ∨ e = .returned (.int .i64 1) ∧ m.Small) ∧ Below w.heap.size w w'

set_option maxRecDepth 100000 in
set_option maxHeartbeats 4000000 in
theorem small6_any (m : MRec) (w : World) (hm : m.In w) (hok : m.Ok) : Calls Try.prog 14 #[m.val] w (SmallPost m w) := by
  have HM := Lib.hid (And.intro hm hok)
  clear hm hok
  dsimp only [MRec.val]
  obtain ⟨qA, hqA⟩ : ∃ A, m.qA = A := ⟨_, rfl⟩
  have hTQ := HM.out.1.tq
  rw [hqA] at hTQ ⊢
  have HTQ := Lib.hid hTQ
  clear hqA hTQ
  by_cases hbig : 20 < m.q.length ∨ 20 < m.s.length ∨ 20 < m.h.length ∨ 20 < m.e.length
  · by_cases hq : 20 < m.q.length
    · have q1 : (20 : Int) < (m.q.length : Int) := by omega
      clear hq hbig
      go_enter Try.func14, Try.ntmps14
      go_wp2_with (fail)
      go_ret
      exact ⟨.inl rfl, (Below.refl _ _).alloc (Nat.le_refl _) _⟩
    · have q1 : ¬ (20 : Int) < (m.q.length : Int) := by omega
      by_cases hs : 20 < m.s.length
      · have q2 : (20 : Int) < (m.s.length : Int) := by omega
        clear hq hs hbig
        go_enter Try.func14, Try.ntmps14
        go_wp2_with (fail)
        go_ret
        exact ⟨.inl rfl, (Below.refl _ _).alloc (Nat.le_refl _) _⟩
      · have q2 : ¬ (20 : Int) < (m.s.length : Int) := by omega
        by_cases hh : 20 < m.h.length
        · have q3 : (20 : Int) < (m.h.length : Int) := by omega
          clear hq hs hh hbig
          go_enter Try.func14, Try.ntmps14
          go_wp2_with (fail)
          go_ret
          exact ⟨.inl rfl, (Below.refl _ _).alloc (Nat.le_refl _) _⟩
        · have q3 : ¬ (20 : Int) < (m.h.length : Int) := by omega
          have q4 : (20 : Int) < (m.e.length : Int) := by omega
          clear hq hs hh hbig
          go_enter Try.func14, Try.ntmps14
          go_wp2_with (fail)
          go_ret
          exact ⟨.inl rfl, (Below.refl _ _).alloc (Nat.le_refl _) _⟩
  have q1 : ¬ (20 : Int) < (m.q.length : Int) := by omega
  have q2 : ¬ (20 : Int) < (m.s.length : Int) := by omega
  have q3 : ¬ (20 : Int) < (m.h.length : Int) := by omega
  have q4 : ¬ (20 : Int) < (m.e.length : Int) := by omega
  have HLN := Lib.hid (show m.q.length ≤ 20 ∧ m.s.length ≤ 20 ∧ m.h.length ≤ 20 ∧ m.e.length ≤ 20 from by omega)
  clear hbig
  go_enter Try.func14, Try.ntmps14
  go_wp2_with (fail)
  obtain ⟨ls, hls⟩ : ∃ ls : List LRec, ls = [⟨m.sA, m.s, m.sc⟩, ⟨m.hA, m.h, m.hc⟩, ⟨m.eA, m.e, m.ec⟩] := ⟨_, rfl⟩
  obtain ⟨V, hV⟩ : ∃ V, (w.alloc (.cells #[.int .u16 m.id, .int .u16 m.bi, .slice qA m.q.length m.qc, .slice m.sA m.s.length m.sc, .slice m.hA m.h.length m.hc, .slice m.eA m.e.length m.ec] 43)).alloc (.cells #[.slice m.sA m.s.length m.sc, .slice m.hA m.h.length m.hc, .slice m.eA m.e.length m.ec] 41) = V := ⟨_, rfl⟩
  have HV := Lib.hid (show Below w.heap.size w V ∧ Blk V w.heap.size 43 #[.int .u16 m.id, .int .u16 m.bi, .slice qA m.q.length m.qc, .slice m.sA m.s.length m.sc, .slice m.hA m.h.length m.hc, .slice m.eA m.e.length m.ec] ∧
      (∀ j l, ls[j]? = some l → V.cell? ⟨w.heap.size + 1, j, none⟩ = some (.slice l.A l.xs.length l.c)) ∧ V.heap.size = w.heap.size + 2 from by
    rw [← hV, hls]
    refine ⟨((Below.refl _ _).alloc (Nat.le_refl _) _).alloc (by simp) _, (Blk.new _ _ _).alloc _, fun j l hj => ?_, by simp⟩
    have h1 := (Blk.new (w.alloc (.cells #[.int .u16 m.id, .int .u16 m.bi, .slice qA m.q.length m.qc, .slice m.sA m.s.length m.sc, .slice m.hA m.h.length m.hc, .slice m.eA m.e.length m.ec] 43)) 41 #[.slice m.sA m.s.length m.sc, .slice m.hA m.h.length m.hc, .slice m.eA m.e.length m.ec]).cell j
    rw [World.size_alloc] at h1
    rw [h1]
    match j, hj with
    | 0, hj => injection hj with hj; subst hj; rfl
    | 1, hj => injection hj with hj; subst hj; rfl
    | 2, hj => injection hj with hj; subst hj; rfl
    | j + 3, hj => simp at hj)
  have HLS := Lib.hid (show ls.length = 3 ∧ (∀ l ∈ ls, RTab w l.A l.xs ∧ l.xs.length ≤ 20) ∧ ((∀ l ∈ ls, ∀ e ∈ l.xs, e.small) → (∀ e ∈ m.s, e.small) ∧ (∀ e ∈ m.h, e.small) ∧ ∀ e ∈ m.e, e.small) from by
    rw [hls]
    refine ⟨rfl, fun l hl => ?_, fun h => ⟨fun e he => h ⟨m.sA, m.s, m.sc⟩ (by simp) e he, fun e he => h ⟨m.hA, m.h, m.hc⟩ (by simp) e he, fun e he => h ⟨m.eA, m.e, m.ec⟩ (by simp) e he⟩⟩
    simp only [List.mem_cons, List.not_mem_nil, or_false] at hl
    have hln := HLN.out
    rcases hl with rfl | rfl | rfl
    · exact ⟨HM.out.1.ts, hln.2.1⟩
    · exact ⟨HM.out.1.th, hln.2.2.1⟩
    · exact ⟨HM.out.1.te, hln.2.2.2⟩)
  rw [hV]
  clear hV hls
  go_loopg [39] 4 (fun gg v39 wr => ∃ k : Nat, v39 = .int .i64 (k : Int) ∧ k ≤ 3 ∧ Aside (gg + k = 4) ∧ Aside (Below V.heap.size V wr ∧ ∀ l ∈ ls.take k, ∀ e ∈ l.xs, e.small))
  case atStart => exact ⟨0, rfl, by omega, rfl, Below.refl _ _, by simp⟩
  case round =>
    obtain ⟨k, rfl, hk, hg, hI⟩ := hrel
    by_cases hlt : k < 3
    · obtain ⟨l, hl⟩ : ∃ l, ls[k]? = some l := ⟨_, List.getElem?_eq_getElem (by rw [HLS.out.1]; exact hlt)⟩
      have hlI : (k : Int) < 3 := by omega
      have c1 : wr.cell? ⟨w.heap.size + 1, k, none⟩ = some (.slice l.A l.xs.length l.c) := (hI.out.1.cell (p := ⟨w.heap.size + 1, k, none⟩) (by show w.heap.size + 1 < _; have := HV.out.2.2.2; omega)).trans (HV.out.2.2.1 k l hl)
      have HT := Lib.hid (HLS.out.2.1 l (List.mem_of_getElem? hl))
      have HTK := Lib.hid (take_at hl)
      obtain ⟨lA, xs, lc⟩ := l
      clear hl hlt
      have hx20 : (xs.length : Int) ≤ 20 := by have := HT.out.2; dsimp only at this; omega
      go_wp2_with (fail)
      obtain ⟨wo, rfl⟩ : ∃ wo : World, wo = wr := ⟨_, rfl⟩
      go_loopg [45] (xs.length + 1) (fun g2 v45 ws => ∃ j : Nat, v45 = .int .i64 (j : Int) ∧ j ≤ xs.length ∧ Aside (g2 + j = xs.length + 1) ∧ Aside (Below wo.heap.size wo ws ∧ ∀ e ∈ xs.take j, e.small))
      case atStart => exact ⟨0, rfl, by omega, rfl, Below.refl _ _, by simp⟩
      case round =>
        obtain ⟨j, rfl, hj, hg2, hJ⟩ := hrel
        by_cases hlt2 : j < xs.length
        · obtain ⟨r, hr⟩ : ∃ r, xs[j]? = some r := ⟨_, List.getElem?_eq_getElem hlt2⟩
          have hlI2 : (j : Int) < (xs.length : Int) := by omega
          have B3 := Lib.hid (show Below w.heap.size w wr from (HV.out.1.trans (hI.out.1.mono HV.out.1.size)).trans (hJ.out.1.mono (Nat.le_trans HV.out.1.size hI.out.1.size)))
          obtain ⟨b, off, rfl, hbw, d0, d1, d2, d3, d4⟩ := (HT.out.1.below B3.out).cells hr
          have HR := Lib.hid hr
          obtain ⟨rn, rt, rc, rl, rd⟩ := r
          clear hr hlt2
          by_cases hd : 5000 < rd.size
          · have e1 : (5000 : Int) < (rd.size : Int) := by omega
            clear hd
            go_wp2_with (fail)
            go_ret
            exact ⟨.inl rfl, (B3.out.alloc B3.out.size _)⟩
          · have e1 : ¬ (5000 : Int) < (rd.size : Int) := by omega
            by_cases hn : 1000 < rn.size
            · have e2 : (1000 : Int) < (rn.size : Int) := by omega
              clear hd hn
              go_wp2_with (fail)
              go_ret
              exact ⟨.inl rfl, (B3.out.alloc B3.out.size _)⟩
            · have e2 : ¬ (1000 : Int) < (rn.size : Int) := by omega
              have HS := Lib.hid (show RRec.small ⟨rn, rt, rc, rl, rd⟩ from ⟨by show rn.size ≤ 1000; omega, by show rd.size ≤ 5000; omega⟩)
              clear hd hn
              go_wp2_with (fail)
              go_roundg (xs.length - j)
              case measure => have := hg2.out; omega
              case rel => exact ⟨j + 1, by go_num, by omega, (show _ = _ by omega), hJ.out.1.alloc hJ.out.1.size _, allr_step hJ.out.2 HR.out HS.out⟩
        · have hlI2 : ¬ (j : Int) < (xs.length : Int) := by omega
          have hJ2 := hJ.out.2
          rw [List.take_of_length_le (by omega)] at hJ2
          have HJ2 := Lib.hid hJ2
          clear hlt2 hJ2
          go_wp2_with (fail)
          go_roundg (3 - k)
          case measure => have := hg.out; omega
          case rel =>
            refine ⟨k + 1, by go_num, by omega, (show _ = _ by omega), hI.out.1.trans (hJ.out.1.mono hI.out.1.size), ?_⟩
            rw [HTK.out]
            intro l hl
            rcases List.mem_append.1 hl with hl | hl
            · exact hI.out.2 l hl
            · rw [List.mem_singleton.1 hl]; exact HJ2.out
    · have hlI : ¬ (k : Int) < 3 := by omega
      have hI2 := hI.out.2
      rw [List.take_of_length_le (by rw [HLS.out.1]; omega)] at hI2
      have HA := Lib.hid (HLS.out.2.2 hI2)
      have c2 : wr.cell? ⟨w.heap.size, 2, none⟩ = some (.slice qA m.q.length m.qc) := (hI.out.1.cell (p := ⟨w.heap.size, 2, none⟩) HV.out.2.1.lt).trans (HV.out.2.1.cell 2)
      clear hlt hI2
      go_wp2_with (fail)
      obtain ⟨wo, rfl⟩ : ∃ wo : World, wo = wr := ⟨_, rfl⟩
      go_loopg [64] (m.q.length + 1) (fun g2 v64 ws => ∃ j : Nat, v64 = .int .i64 (j : Int) ∧ j ≤ m.q.length ∧ Aside (g2 + j = m.q.length + 1) ∧ Aside (Below wo.heap.size wo ws ∧ ∀ e ∈ m.q.take j, e.n.size ≤ 1000))
      case atStart => exact ⟨0, rfl, by omega, rfl, Below.refl _ _, by simp⟩
      case round =>
        obtain ⟨j, rfl, hj, hg2, hJ⟩ := hrel
        have B3 := Lib.hid (show Below w.heap.size w wr from (HV.out.1.trans (hI.out.1.mono HV.out.1.size)).trans (hJ.out.1.mono (Nat.le_trans HV.out.1.size hI.out.1.size)))
        by_cases hlt2 : j < m.q.length
        · obtain ⟨r, hr⟩ : ∃ r, m.q[j]? = some r := ⟨_, List.getElem?_eq_getElem hlt2⟩
          have hlI2 : (j : Int) < (m.q.length : Int) := by omega
          obtain ⟨b, off, rfl, hbw, d0, d1, d2⟩ := (HTQ.out.below B3.out).cells hr
          have HR := Lib.hid hr
          obtain ⟨rn, rt, rc⟩ := r
          clear hr hlt2
          by_cases hn : 1000 < rn.size
          · have e2 : (1000 : Int) < (rn.size : Int) := by omega
            clear hn
            go_wp2_with (fail)
            go_ret
            exact ⟨.inl rfl, (B3.out.alloc B3.out.size _)⟩
          · have e2 : ¬ (1000 : Int) < (rn.size : Int) := by omega
            have HS := Lib.hid (show rn.size ≤ 1000 from by omega)
            clear hn
            go_wp2_with (fail)
            go_roundg (m.q.length - j)
            case measure => have := hg2.out; omega
            case rel => exact ⟨j + 1, by go_num, by omega, (show _ = _ by omega), hJ.out.1.alloc hJ.out.1.size _, allq_step hJ.out.2 HR.out HS.out⟩
        · have hlI2 : ¬ (j : Int) < (m.q.length : Int) := by omega
          have hJ2 := hJ.out.2
          rw [List.take_of_length_le (by omega)] at hJ2
          have HJ2 := Lib.hid hJ2
          clear hlt2 hJ2
          go_wp2_with (fail)
          go_ret
          have hln := HLN.out
          exact ⟨.inr ⟨rfl, ⟨hln.1, hln.2.1, hln.2.2.1, hln.2.2.2, HJ2.out, HA.out.1, HA.out.2.1, HA.out.2.2⟩⟩, B3.out⟩
end Go.Proofs.Ytfipacfompihkaa
