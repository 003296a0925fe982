/- The walks of minim's steps, as an iterator. -/
import Derived.Test.YtjhhhkhcnohmiaaMinimN
import Derived.Test.YtjhhhkhcnohmiaaRangeM
import Derived.WalkMore
namespace Go.Proofs.Ytjhhhkhcnohmiaa
open Go.RowKit Go.Shelf
attribute [local go_sem] Oper.semAt_some

theorem steps_in (n : Nat) (q : Qn) (z : ByteArray) (w : World) :
    CallsIn Fence.wide n Try.prog 60 #[.agg #[.string q.n, .int .u16 q.t, .int .u16 q.c], .string z] w fun e w' => e = .returned (.func (.func 81) #[] #[.pointer (some ⟨w.heap.size, 0, none⟩), .pointer (some ⟨w.heap.size + 1, 0, none⟩)]) ∧
      w' = (w.alloc (.cells #[.string q.n, .int .u16 q.t, .int .u16 q.c] 39)).alloc (.cells #[.string z] 9) := by
  refine callsIn_of_wp Try.func60 rfl trivial ?_ rfl
  simp only [Try.ntmps60, List.size_toArray, List.length_cons, List.length_nil, Nat.reduceAdd, Nat.reduceSub, Array.replicate_succ, Array.replicate_zero, List.push_toArray, List.append_toArray, List.nil_append, List.cons_append]
  gi_wp2
  go_ret
  exact ⟨rfl, rfl⟩

/-- A scope through which the run goes without a goto, in the wide fence. -/
theorem wpIn_scope_wide {n : Nat} {P : Program} {c : Code} {Q : Exit → Act → World → Prop} {a : Act} {w : World} (h : c.wpIn Fence.wide n P (Exit.noGoto Q) a w) : (Code.scope c).wpIn Fence.wide n P Q a w :=
  wpIn_wide.2 (wp_scope_straight (wpIn_wide.1 h))
theorem KeepX.blk {B X b c g : Nat} {U V : World} {t : TypeId} {cs : Array Value} (h : KeepX B X b c U V) (hB : Blk U g t cs) (h1 : (B ≤ g ∧ g < X) ∨ (b ≤ g ∧ g < c)) : Blk V g t cs := (h.same g hB.lt h1).trans hB
theorem Out.set3 {B X g : Nat} {U V : World} (h : Out B X U V) (hg : B ≤ g ∧ g < X) (a b c : Value) : Out B X U (((V.setCell ⟨g, 0, none⟩ a).setCell ⟨g, 1, none⟩ b).setCell ⟨g, 2, none⟩ c) :=
  ((h.trans (Out.cell (a := ⟨g, 0, none⟩) a hg)).trans (Out.cell (a := ⟨g, 1, none⟩) b hg)).trans (Out.cell (a := ⟨g, 2, none⟩) c hg)
theorem Blk.set3 {V : World} {g : Nat} {t : TypeId} {x y z : Value} (h : Blk V g t #[x, y, z]) (a b c : Value) : Blk (((V.setCell ⟨g, 0, none⟩ a).setCell ⟨g, 1, none⟩ b).setCell ⟨g, 2, none⟩ c) g t #[a, b, c] := ((h.set_ 0 a).set_ 1 b).set_ 2 c

set_option maxRecDepth 100000 in
set_option maxHeartbeats 2000000 in
theorem steps1_M (Bq : Nat) (q : Qn) (z : ByteArray) (hq : q.n.size ≤ maxLen) (hz : z.size ≤ maxLen) (w : World) (hc : Blk w Bq 39 #[.string q.n, .int .u16 q.t, .int .u16 q.c]) (hcz : Blk w (Bq + 1) 9 #[.string z]) :
    SeqM Try.prog 81 #[.pointer (some ⟨Bq, 0, none⟩), .pointer (some ⟨Bq + 1, 0, none⟩)] (fun x : Qn => #[Value.agg #[.string x.n, .int .u16 x.t, .int .u16 x.c]]) Bq (Bq + 2) (stepsL q z) w := by
  intro m l J Jx W hW hJ hJx hY h0
  obtain ⟨n, hn⟩ : ∃ n : Nat, 8 ≤ n := ⟨8, by omega⟩
  refine callsIn_wide.2 ((callsIn_wide (n := n)).1 ?_)
  have h1n : 1 ≤ n := by omega
  have hBq : Bq < w.heap.size := hc.lt
  have hBz : Bq + 1 < w.heap.size := hcz.lt
  have hws := hW.size
  have bq : Blk W Bq 39 #[.string q.n, .int .u16 q.t, .int .u16 q.c] := hc.below hW hBq
  have bz : Blk W (Bq + 1) 9 #[.string z] := hcz.below hW hBz
  have hN : ∀ V, CallsIn Fence.wide (n - 1) Try.prog 57 #[.agg #[.string q.n, .int .u16 q.t, .int .u16 q.c], .string z] V fun e w' => e = .returned (.tuple #[(nextQ q z).1.v, .int .i64 (nextQ q z).2]) ∧ Below V.heap.size V w' := fun V => (callsIn_wide (n := n - 1)).2 (mNext_any q z hq hz V)
  have hD : ∀ (x : ByteArray), x.size ≤ maxLen → ∀ V, CallsIn Fence.wide (n - 1) Try.prog 58 #[.agg #[.string q.n, .int .u16 q.t, .int .u16 q.c], .string z, .string x] V fun e w' => e = .returned (.tuple #[(deepQ q z x).1.v, .int .i64 (deepQ q z x).2]) ∧ Below V.heap.size V w' := fun x hx V => (callsIn_wide (n := n - 1)).2 (mDeeper_any q z x hq hz hx V)
  have c0 := bq.cell 0
  have c1 := bq.cell 1
  have c2 := bq.cell 2
  have d0 := bz.cell 0
  have HB := Lib.hid (And.intro bq (And.intro bz (And.intro hq hz)))
  clear bq bz hq hz hc hcz
  refine callsIn_of_wp Try.func81 rfl trivial ?_ rfl
  simp only [Try.ntmps81, List.size_toArray, List.length_cons, List.length_nil, Nat.reduceAdd, Nat.reduceSub, Array.replicate_succ, Array.replicate_zero, List.push_toArray, List.append_toArray, List.nil_append, List.cons_append]
  refine wpIn_scope_wide ?_
  cases hwi : withinB q.n.data.toList z.data.toList with
  | false =>
    obtain ⟨hL, e, hne, hee⟩ := steps_no hwi
    rw [hL] at hY ⊢
    rw [hne] at hN
    have HN : RowKit.Hid (∀ V, CallsIn Fence.wide (n - 1) Try.prog 57 #[.agg #[.string q.n, .int .u16 q.t, .int .u16 q.c], .string z] V fun r w' => r = .returned (.tuple #[.agg #[.string ⟨#[]⟩, .int .u16 0, .int .u16 0], .int .i64 e]) ∧ Below V.heap.size V w') := hN
    have he0 : (e == 0) = false := by rcases hee with rfl | rfl <;> rfl
    clear hN hD hne hee hL hY
    gi_wp2_with (refine ⟨trivial, ?_⟩; gi_at_call 57; refine (HN.out _).mono ?_; rintro r w1 ⟨rfl, hb1⟩)
    refine wpIn_label ?_
    gi_wp2_with (fail)
    have hJ0 := h0 _ (w1.alloc (.cells #[.string ⟨#[]⟩, .int .u16 0, .int .u16 0] 39)) (hb1.alloc hb1.size _) rfl
    have HJ := Lib.hid hJ0
    clear hJ0 h0 hJ hJx hb1
    gi_loopg [5] 1 (fun g v5 wr => v5 = .int .i64 e ∧ Aside (J (w1.alloc (.cells #[.string ⟨#[]⟩, .int .u16 0, .int .u16 0] 39)).heap.size [] wr))
    case atStart => exact ⟨rfl, HJ.out⟩
    case round =>
      obtain ⟨rfl, hj⟩ := hrel
      gi_wp2_with (fail)
      rw [Exit.noGoto_normal]
      refine bodyPost_end (results_none rfl _ _ _) rfl ?_
      exact ⟨⟨_, rfl⟩, _, .inl hj.out⟩
  | true =>
    obtain ⟨x0, hx0, hnx⟩ := steps_first hwi
    have hLl := steps_len hwi
    rw [hnx] at hN
    have HN : RowKit.Hid (∀ V, CallsIn Fence.wide (n - 1) Try.prog 57 #[.agg #[.string q.n, .int .u16 q.t, .int .u16 q.c], .string z] V fun r w' => r = .returned (.tuple #[.agg #[.string x0.n, .int .u16 x0.t, .int .u16 x0.c], .int .i64 0]) ∧ Below V.heap.size V w') := hN
    have HD := Lib.hid hD
    have HX0 := Lib.hid hx0
    clear hN hD hnx hx0
    gi_wp2_with (refine ⟨trivial, ?_⟩; gi_at_call 57; refine (HN.out _).mono ?_; rintro r w1 ⟨rfl, hb1⟩)
    refine wpIn_label ?_
    gi_wp2_with (fail)
    obtain ⟨X, hX⟩ : ∃ X, (w1.alloc (.cells #[.string x0.n, .int .u16 x0.t, .int .u16 x0.c] 39)).heap.size = X := ⟨_, rfl⟩
    have hJ0 := h0 _ (w1.alloc (.cells #[.string x0.n, .int .u16 x0.t, .int .u16 x0.c] 39)) (hb1.alloc hb1.size _) hX
    have hX2 : X = w1.heap.size + 1 := by rw [← hX]; simp
    have hw1 := hb1.size
    have R0 := Blk.new w1 39 #[.string x0.n, .int .u16 x0.t, .int .u16 x0.c]
    have q0 := (HB.out.1.below hb1 HB.out.1.lt).alloc (.cells #[.string x0.n, .int .u16 x0.t, .int .u16 x0.c] 39)
    have z0 := (HB.out.2.1.below hb1 HB.out.2.1.lt).alloc (.cells #[.string x0.n, .int .u16 x0.t, .int .u16 x0.c] 39)
    have HJ := Lib.hid (And.intro hJ0 (And.intro R0 (And.intro q0 z0)))
    have HK := Lib.hid (And.intro hJ (And.intro hJx hY))
    clear hJ0 R0 q0 z0 h0 hJ hJx hb1 c0 c1 c2 d0 hY hX
    gi_loopg [5] (stepsL q z).length (fun g v5 wr => ∃ (k : Nat) (x : Qn), g + k = (stepsL q z).length ∧ k < (stepsL q z).length ∧ (stepsL q z)[k]? = some x ∧ v5 = .int .i64 0 ∧ Aside (J X ((stepsL q z).take k) wr) ∧ Aside (Blk wr w1.heap.size 39 #[.string x.n, .int .u16 x.t, .int .u16 x.c]) ∧
      Aside (Blk wr Bq 39 #[.string q.n, .int .u16 q.t, .int .u16 q.c]) ∧ Aside (Blk wr (Bq + 1) 9 #[.string z]))
    case atStart => exact ⟨0, x0, by omega, by omega, HX0.out, rfl, HJ.out.1, HJ.out.2.1, HJ.out.2.2.1, HJ.out.2.2.2⟩
    case round =>
      obtain ⟨k, x, hg, hk, hxk, rfl, hj, hR, hQ, hZ⟩ := hrel
      have hpre : (stepsL q z).take k ++ [x] = (stepsL q z).take (k + 1) := by
        obtain ⟨hl, he⟩ := List.getElem?_eq_some_iff.1 hxk
        rw [List.take_succ_eq_append_getElem hl, he]
      have hy0 := HK.out.2.2 X _ x wr hj.out (by rw [hpre]; exact List.take_prefix _ _)
      rw [hpre] at hy0
      obtain ⟨fn, tmps, assign, body, hy, hRR⟩ := yield_deep (m := n - 1) hy0
      have a0 := hR.out.cell 0
      have a1 := hR.out.cell 1
      have a2 := hR.out.cell 2
      have HG := Lib.hid (And.intro hpre (And.intro hxk hg))
      clear hpre hxk hj
      by_cases hlast : k + 1 = (stepsL q z).length
      · have hxq : x = q := by
          have := steps_end hwi hlast
          rw [HG.out.2.1] at this
          exact Option.some.inj this
        subst hxq
        have HL := Lib.hid hlast
        clear hlast
        gi_wp2_with (fail)
        refine hRR.mono ?_
        rintro e W3 (⟨rfl, hJ3, hK3⟩ | ⟨rfl, hJx3, hK3⟩)
        · have R3 := hK3.blk hR.out (.inl ⟨hw1, by omega⟩)
          have Q3 := hK3.blk hQ.out (.inr ⟨Nat.le_refl _, by omega⟩)
          have g0 := R3.cell 0
          have b0 := Q3.cell 0
          have HJ3 := Lib.hid hJ3
          clear hJ3 hK3 R3 Q3
          gi_wp2_with (fail)
          rw [Exit.noGoto_normal]
          refine bodyPost_end (results_none rfl _ _ _) rfl ?_
          have h3 := HJ3.out
          rw [HL.out, List.take_length] at h3
          exact ⟨⟨_, rfl⟩, _, .inl h3⟩
        · gi_wp2_with (fail)
          rw [Exit.noGoto_normal]
          refine bodyPost_end (results_none rfl _ _ _) rfl ?_
          exact ⟨⟨_, rfl⟩, _, .inr ⟨_, List.take_prefix _ _, hJx3⟩⟩
      · obtain ⟨x', y, hx', hy', hn1, ht1, hc1, hne, hdp, _, _, _⟩ := steps_mem hwi (k := k) (by omega)
        obtain rfl : x' = x := by rw [HG.out.2.1] at hx'; exact (Option.some.inj hx').symm
        have hDx := HD.out x'.n (by rw [hn1]; exact Nat.le_trans (above_size _ _) HB.out.2.2.1)
        rw [hdp] at hDx
        have HDx : RowKit.Hid (∀ V, CallsIn Fence.wide (n - 1) Try.prog 58 #[.agg #[.string q.n, .int .u16 q.t, .int .u16 q.c], .string z, .string x'.n] V fun r w' => r = .returned (.tuple #[.agg #[.string y.n, .int .u16 y.t, .int .u16 y.c], .int .i64 0]) ∧ Below V.heap.size V w') := hDx
        have HL := Lib.hid (And.intro hlast hy')
        clear hlast hx' hy' hn1 ht1 hc1 hdp hDx
        gi_wp2_with (fail)
        refine hRR.mono ?_
        rintro e W3 (⟨rfl, hJ3, hK3⟩ | ⟨rfl, hJx3, hK3⟩)
        · have R3 := hK3.blk hR.out (.inl ⟨hw1, by omega⟩)
          have Q3 := hK3.blk hQ.out (.inr ⟨Nat.le_refl _, by omega⟩)
          have Z3 := hK3.blk hZ.out (.inr ⟨by omega, by omega⟩)
          have g0 := R3.cell 0
          have g1 := R3.cell 1
          have g2 := R3.cell 2
          have b0 := Q3.cell 0
          have b1 := Q3.cell 1
          have b2 := Q3.cell 2
          have d0 := Z3.cell 0
          have H3 := Lib.hid (And.intro hJ3 (And.intro R3 (And.intro Q3 Z3)))
          clear hJ3 hK3 R3 Q3 Z3
          gi_wp2_with (refine ⟨trivial, ?_⟩; gi_at_call 58; refine (HDx.out _).mono ?_; rintro r w4 ⟨rfl, hb4⟩; have R4 := H3.out.2.1.below hb4 H3.out.2.1.lt; have r0 := R4.cell 0; have r1 := R4.cell 1; have r2 := R4.cell 2; have p0 := R4.frozen 0; have p1 := R4.frozen 1; have p2 := R4.frozen 2; have H4 := Lib.hid (And.intro hb4 R4); clear hb4 R4)
          gi_roundg ((stepsL q z).length - (k + 1))
          case measure => have := HG.out.2.2; have := HL.out.1; omega
          case rel =>
            obtain ⟨hJ3, R3, Q3, Z3⟩ := H3.out
            obtain ⟨hb4, R4⟩ := H4.out
            have hw3 : w1.heap.size < W3.heap.size := R3.lt
            have hg := HG.out.2.2
            have hl := HL.out.1
            refine ⟨k + 1, y, by omega, by omega, HL.out.2, rfl, HK.out.1 _ _ _ _ hJ3 ((Out.of_below hb4).set3 ⟨hw1, by omega⟩ _ _ _), R4.set3 _ _ _, ?_, ?_⟩
            · exact (((Q3.below hb4 Q3.lt).far (p := ⟨w1.heap.size, 0, none⟩) (by show Bq ≠ w1.heap.size; omega) _).far (p := ⟨w1.heap.size, 1, none⟩) (by show Bq ≠ w1.heap.size; omega) _).far (p := ⟨w1.heap.size, 2, none⟩) (by show Bq ≠ w1.heap.size; omega) _
            · exact (((Z3.below hb4 Z3.lt).far (p := ⟨w1.heap.size, 0, none⟩) (by show Bq + 1 ≠ w1.heap.size; omega) _).far (p := ⟨w1.heap.size, 1, none⟩) (by show Bq + 1 ≠ w1.heap.size; omega) _).far (p := ⟨w1.heap.size, 2, none⟩) (by show Bq + 1 ≠ w1.heap.size; omega) _
        · gi_wp2_with (fail)
          rw [Exit.noGoto_normal]
          refine bodyPost_end (results_none rfl _ _ _) rfl ?_
          exact ⟨⟨_, rfl⟩, _, .inr ⟨_, List.take_prefix _ _, hJx3⟩⟩
end Go.Proofs.Ytjhhhkhcnohmiaa
