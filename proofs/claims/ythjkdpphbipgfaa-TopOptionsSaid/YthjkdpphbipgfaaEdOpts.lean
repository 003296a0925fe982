/- The walks of edns.options, as an iterator, at right data. Conditions: none. -/
import Derived.Test.YthjkdpphbipgfaaOptB
import Derived.Test.YthjkdpphbipgfaaRangeM
import Derived.RangeFuncNested
import Derived.RangeFuncBound
import Derived.RangeFuncCalls
import Derived.RangeFuncLeaves
import Derived.RangeFuncBox
import Derived.RangeFuncFrom
import Derived.Shelf.Abstract
import Derived.Shelf.RegionOpen
import Derived.Shelf.AbstractIn
import Derived.TacticsInMore
import Derived.LoopNIn
import Derived.LoopIn
import Derived.Sort.LoopGhostIn
import Derived.Sort.QuietIn
import Derived.Stop.RegionWithIn
import Derived.Deep.LoopGhost
namespace Go.Proofs.Ythjkdpphbipgfaa
open Go.RowKit Go.Shelf
attribute [local go_sem] Oper.semAt_some

theorem Out.of_butE {B X R : Nat} {U V : World} (h : But R U V) (hR : B ≤ R ∧ R < X) : Out B X U V :=
  ⟨h.os, h.tape, h.output, h.size, fun i hi ho => h.block i ⟨hi, by omega⟩⟩
set_option maxRecDepth 100000 in
theorem rLeftE_any {w : World} {b : Nat} {s : ByteArray} {at' : Nat} (h : Rd w b s at' false) (hs : s.size ≤ 140737488355328) (ha : at' ≤ s.size) :
    Calls Try.prog 93 #[.pointer (some ⟨b, 0, none⟩)] w fun e w' => e = .returned (.int .i64 ((s.size - at' : Nat) : Int)) ∧ Rd w' b s at' false ∧ But b w w' := by
  have H := Lib.hid (rBad_any h)
  have HR := Lib.hid h
  have c0 : w.cell? ⟨b, 0, none⟩ = some (.string s) := Blk.cell h 0
  have c1 : w.cell? ⟨b, 1, none⟩ = some (.int .i64 (at' : Int)) := Blk.cell h 1
  have e1 : IntKind.i64.wrap ((s.size : Int) - (at' : Int)) = ((s.size - at' : Nat) : Int) := by rw [IntWalk.i64_in _ (by omega)]; omega
  clear h hs ha
  go_enter Try.func93, Try.ntmps93
  go_wp2_with (fail)
  with_reducible refine H.out.mono ?_
  rintro e w' ⟨rfl, rfl⟩
  go_wp2_with (fail)
  go_quiet (fail)
  go_wp2_with (fail)
  go_ret
  exact ⟨rfl, HR.out, (KeepK.refl _ _).drewN _⟩

theorem options_in (n : Nat) (s : ByteArray) (w : World) :
    CallsIn Fence.wide n Try.prog 63 #[.string s] w fun e w' => e = .returned (.func (.func 91) #[] #[.pointer (some ⟨w.heap.size, 0, none⟩)]) ∧ w' = w.alloc (.cells #[.string s] 9) := by
  refine callsIn_of_wp Try.func63 rfl trivial ?_ rfl
  simp only [Try.ntmps63, List.size_toArray, List.length_cons, List.length_nil, Nat.reduceAdd, Nat.reduceSub, Array.replicate_succ, Array.replicate_zero, List.push_toArray, List.append_toArray, List.nil_append, List.cons_append]
  gi_wp2
  go_ret
  exact ⟨rfl, rfl⟩

set_option maxRecDepth 100000 in
set_option maxHeartbeats 2000000 in
theorem options1_M (Bs : Nat) (s : ByteArray) (xs : List Opt) (hxs : s.data.toList = optsB xs) (hf : ∀ o ∈ xs, o.fits) (hs : s.size ≤ 1000000) (w : World) (hc : Blk w Bs 9 #[.string s]) :
    SeqM Try.prog 91 #[.pointer (some ⟨Bs, 0, none⟩)] (fun o : Opt => #[Value.agg #[.int .u16 o.c, .string o.d], .bool true]) Bs (Bs + 1) xs w := by
  intro m l J Jx W hW hJ hJx hY h0
  obtain ⟨n, hn⟩ : ∃ n : Nat, 8 ≤ n := ⟨8, by omega⟩
  refine callsIn_wide.2 ((callsIn_wide (n := n)).1 ?_)
  have h1n : 1 ≤ n := by omega
  have hBs : Bs < w.heap.size := hc.lt
  have hws := hW.size
  have bs : Blk W Bs 9 #[.string s] := hc.below hW hBs
  have hOp := fun V => (callsIn_wide (n := n - 1)).2 (rOpen_any s V)
  have c0 : W.cell? ⟨Bs, 0, none⟩ = some (.string s) := bs.cell 0
  have HB := Lib.hid (And.intro bs (show s.size ≤ maxLen by unfold maxLen; omega))
  have HX := Lib.hid (And.intro hxs (And.intro hf hs))
  have HO := Lib.hid hOp
  clear bs hs hc hOp hxs hf
  refine callsIn_of_wp Try.func91 rfl trivial ?_ rfl
  simp only [Try.ntmps91, List.size_toArray, List.length_cons, List.length_nil, Nat.reduceAdd, Nat.reduceSub, Array.replicate_succ, Array.replicate_zero, List.push_toArray, List.append_toArray, List.nil_append, List.cons_append]
  gi_wp2_with (refine ⟨trivial, ?_⟩; gi_at_call 92; refine (HO.out _).mono ?_; rintro r w1 ⟨rfl, hRd, hb1⟩)
  have hw1 := hb1.size
  have hRlt := hRd.lt
  obtain ⟨X, hX⟩ : ∃ X, w1.heap.size = X := ⟨_, rfl⟩
  have hJ0 := h0 _ w1 hb1 hX
  have bs1 : Blk w1 Bs 9 #[.string s] := HB.out.1.below hb1 HB.out.1.lt
  have HJ := Lib.hid (And.intro hJ0 (And.intro hRd bs1))
  have HK := Lib.hid (And.intro hJ (And.intro hJx hY))
  have hXR : W.heap.size < X := by omega
  clear hJ0 hRd bs1 h0 hJ hJx hY hb1 c0 hRlt
  gi_loopg [4, 5] (xs.length + 1) (fun g _ _ wr => ∃ k : Nat, g + k = xs.length + 1 ∧ k ≤ xs.length ∧ Aside (J X (xs.take k) wr) ∧ Aside (Rd wr W.heap.size s (optAt xs k) false) ∧ Aside (Blk wr Bs 9 #[.string s]))
  case atStart => exact ⟨0, by omega, Nat.zero_le _, HJ.out.1, HJ.out.2.1, HJ.out.2.2⟩
  case round =>
    obtain ⟨k, hg, hkl, hj, hR, hS⟩ := hrel
    by_cases hlt : k < xs.length
    · obtain ⟨o, ho⟩ : ∃ o, xs[k]? = some o := ⟨_, List.getElem?_eq_getElem hlt⟩
      have hof := HX.out.2.1 o (List.mem_of_getElem? ho)
      obtain ⟨q1, q2, q3, q4, q5⟩ := opt_at HX.out.1 ho hof
      have hin := optAt_in HX.out.1 hlt
      obtain ⟨p, hp⟩ : ∃ p, optAt xs k = p := ⟨_, rfl⟩
      rw [hp] at q1 q2 q3 q4 q5 hR hin
      have hL := (callsIn_wide (n := n - 1)).2 (rLeftE_any hR.out (by have := HX.out.2.2; omega) (by omega))
      obtain ⟨lf, hlf⟩ : ∃ lf : Nat, s.size - p = lf := ⟨_, rfl⟩
      rw [hlf] at hL
      have hlfp : (0 : Int) < (lf : Int) := by omega
      have HL := Lib.hid hL
      have hN1 : ∀ V, Rd V W.heap.size s p false → _ := fun V hV => (callsIn_wide (n := n - 1)).2 (rNum_yes hV 2 (.inr (.inl rfl)) HB.out.2 (by omega))
      rw [q1] at hN1
      have hN2 : ∀ V, Rd V W.heap.size s (p + 2) false → _ := fun V hV => (callsIn_wide (n := n - 1)).2 (rNum_yes hV 2 (.inr (.inl rfl)) HB.out.2 (by omega))
      rw [q2] at hN2
      have hRaw : ∀ V, Rd V W.heap.size s (p + 2 + 2) false → _ := fun V hV => (callsIn_wide (n := n - 1)).2 (rRaw_yes hV o.d.size HB.out.2 q4)
      rw [q3] at hRaw
      have HN1 := Lib.hid hN1
      have HN2 := Lib.hid hN2
      have HRaw := Lib.hid hRaw
      have HP := Lib.hid (And.intro ho (And.intro q5 (And.intro hp hlt)))
      have hcb : 0 ≤ o.c ∧ o.c ≤ 65535 := hof.1
      have hdb : (o.d.size : Int) ≤ 65535 := by have := hof.2; omega
      clear hL hN1 hN2 hRaw q1 q2 q3 q4 q5 hp ho hlt hlf hin hof
      gi_wp2_with (fail)
      refine ⟨trivial, HL.out.mono ?_⟩
      rintro r v1 ⟨rfl, hR1, hB1⟩
      gi_wp2_with (fail)
      refine ⟨trivial, (HN1.out _ hR1).mono ?_⟩
      rintro r v2 ⟨rfl, hR2, hB2⟩
      gi_wp2_with (fail)
      refine ⟨trivial, (HN2.out _ hR2).mono ?_⟩
      rintro r v3 ⟨rfl, hR3, hB3⟩
      gi_wp2_with (fail)
      refine ⟨trivial, (HRaw.out _ hR3).mono ?_⟩
      rintro r v4 ⟨rfl, hR4, hB4⟩
      have hB14 := ((hB1.trans hB2).trans hB3).trans hB4
      have bs4 := hB14.blk hS.out (by omega)
      have hJ4 := HK.out.1 X _ _ _ hj.out (Out.of_butE hB14 ⟨Nat.le_refl _, hXR⟩)
      have hpre : xs.take k ++ [o] = xs.take (k + 1) := by
        obtain ⟨hl, he⟩ := List.getElem?_eq_some_iff.1 HP.out.1
        rw [List.take_succ_eq_append_getElem hl, he]
      have hyld := HK.out.2.2 X _ o v4 hJ4 (by rw [hpre]; exact List.take_prefix _ _)
      rw [hpre] at hyld
      obtain ⟨fn, tmps, assign, body, hy, hRR⟩ := yield_deep (m := n - 1) hyld
      have hRR2 := hRR.mono (R' := fun e W' => ∃ b, e = .returned (.bool b) ∧ ((b = true ∧ J X (xs.take (k + 1)) W' ∧ KeepX W.heap.size X Bs (Bs + 1) v4 W') ∨ (b = false ∧ Jx X (xs.take (k + 1)) W'))) (by
        rintro e W' (⟨rfl, h1, h2⟩ | ⟨rfl, h1, _⟩)
        · exact ⟨true, rfl, .inl ⟨rfl, h1, h2⟩⟩
        · exact ⟨false, rfl, .inr ⟨rfl, h1⟩⟩)
      have hBad := Lib.hid ((callsIn_wide (n := n - 1)).2 (rBad_any hR4))
      have HE := Lib.hid (And.intro hR4 bs4)
      have HY := Lib.hid hRR2
      clear hR1 hR2 hR3 hR4 hB1 hB2 hB3 hB4 hB14 bs4 hJ4 hpre hyld hRR hRR2
      gi_wp2_with (fail)
      refine ⟨trivial, hBad.out.mono ?_⟩
      rintro r v5 ⟨rfl, rfl⟩
      gi_wp2_with (fail)
      refine (HY.out).mono ?_
      rintro r v6 ⟨b, rfl, hd⟩
      · rcases hd with ⟨rfl, hJ3, hK3⟩ | ⟨rfl, hJx3⟩
        · have h3 := HE.out
          have R3 : Rd _ W.heap.size s (p + 2 + 2 + o.d.size) false := (hK3.same _ (by have := h3.1.lt; exact this) (.inl ⟨Nat.le_refl _, hXR⟩)).trans h3.1
          have S3 : Blk _ Bs 9 #[.string s] := (hK3.same _ (by have := h3.2.lt; exact this) (.inr ⟨Nat.le_refl _, by omega⟩)).trans h3.2
          have H3 := Lib.hid (And.intro hJ3 (And.intro R3 S3))
          clear hJ3 hK3 R3 S3 h3
          gi_wp2_with (fail)
          gi_roundg (xs.length + 1 - (k + 1))
          case measure => have := HP.out.2.2.2; omega
          case rel =>
            have hlt := HP.out.2.2.2
            refine ⟨k + 1, by omega, by omega, H3.out.1, ?_, H3.out.2.2⟩
            show Rd _ _ _ _ _
            rw [HP.out.2.1]
            exact H3.out.2.1
        · gi_wp2_with (fail)
          refine bodyPost_ret (results_none rfl _ _ _) rfl ?_
          exact ⟨⟨_, rfl⟩, _, .inr ⟨_, List.take_prefix _ _, hJx3⟩⟩
    · obtain rfl : k = xs.length := by omega
      rw [List.take_length] at hj
      have hend := optAt_end HX.out.1
      rw [hend] at hR
      have hL := (callsIn_wide (n := n - 1)).2 (rLeftE_any hR.out (by have := HX.out.2.2; omega) (Nat.le_refl _))
      rw [Nat.sub_self] at hL
      have HL := Lib.hid hL
      clear hL hend hlt
      gi_wp2_with (fail)
      refine ⟨trivial, HL.out.mono ?_⟩
      rintro r v1 ⟨rfl, hR1, hB1⟩
      have H1 := Lib.hid hB1
      clear hR1 hB1
      gi_wp2_with (fail)
      refine bodyPost_end (results_none rfl _ _ _) rfl ?_
      exact ⟨⟨_, rfl⟩, _, .inl (HK.out.1 X _ _ _ hj.out (Out.of_butE H1.out ⟨Nat.le_refl _, hXR⟩))⟩
end Go.Proofs.Ythjkdpphbipgfaa
