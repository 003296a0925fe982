/- The walks of package label's ends and Labels as iterators under whose rounds the body may turn what it has made itself. -/
import Derived.Test.YthnngndnpigjbaaGreatCount
import Derived.Test.YthnngndnpigjbaaGreatRangeN
namespace Go.Proofs.YthnngndnpigjbaaGreat
open Go.RowKit Go.Shelf
attribute [local go_sem] Oper.semAt_some

theorem ends_M (Bn : Nat) (s : ByteArray) (hs : s.size ≤ maxLen) (w : World) (hc : Blk w Bn 9 #[.string s]) :
    SeqM Tryz.prog 75 #[.pointer (some ⟨Bn, 0, none⟩)] (fun x : Nat => #[Value.int .i64 (x : Int)]) Bn (Bn + 1) (endsL s.data.toList) w := by
  intro n l J Jx W hW hJ hJx hY h0
  refine callsIn_wide.2 ((callsIn_wide (n := 8)).1 ?_)
  have hB := hc.lt
  have hcW : W.cell? ⟨Bn, 0, none⟩ = some (.string s) := (hW.cell (p := ⟨Bn, 0, none⟩) hB).trans (hc.cell 0)
  refine (ends1_in 8 (by omega) l Bn s hs (fun pre W' => J W.heap.size pre W' ∧ Bn < W'.heap.size) (fun pre W' => Jx W.heap.size pre W') (fun pre x W1 hj hp => yield_deep (n := n) ?_) W hcW ⟨h0 _ W (Below.refl _ _) rfl, by have := hW.size; omega⟩).mono ?_
  · obtain ⟨fn, tmps, assign, body, hy, hR⟩ := hY _ pre x W1 hj.1 hp
    refine ⟨fn, tmps, assign, body, hy, hR.mono ?_⟩
    rintro e W' (⟨rfl, h1, h2⟩ | ⟨rfl, h1, h2⟩)
    · exact .inl ⟨rfl, ⟨h1, by have := h2.size; have := hj.2; omega⟩, World.cell?_of_block (h2.same _ hj.2 (.inr ⟨Nat.le_refl _, Nat.lt_succ_self _⟩))⟩
    · exact .inr ⟨rfl, h1⟩
  · rintro e W' ⟨hv, ⟨_, rfl, h⟩ | ⟨pre, hp, h⟩⟩
    · exact ⟨hv, _, .inl h.1⟩
    · exact ⟨hv, _, .inr ⟨pre, hp, h⟩⟩


set_option maxRecDepth 100000 in
set_option maxHeartbeats 600000 in
theorem Labels1_M (Bn : Nat) (s : ByteArray) (hs : s.size ≤ maxLen) (w : World) (hc : Blk w Bn 9 #[.string s]) :
    SeqM Tryz.prog 52 #[.pointer (some ⟨Bn, 0, none⟩)] (fun x : Bs => #[Value.string ⟨x.toArray⟩]) Bn (Bn + 1) (namL s.data.toList) w := by
  intro m l J Jx W hW hJ hJx hY h0
  obtain ⟨n, hn⟩ : ∃ n : Nat, 8 ≤ n := ⟨8, by omega⟩
  refine callsIn_wide.2 ((callsIn_wide (n := n)).1 ?_)
  have h1n : 1 ≤ n := by omega
  have hBn := hc.lt
  have hBW : Bn < W.heap.size := by have := hW.size; omega
  have hst : Blk W Bn 9 #[.string s] := (hW.block _ hBn).trans hc
  have hCk := fun W => (callsIn_wide (n := n - 1)).2 (Check_any s hs W)
  refine callsIn_of_wp_marks Tryz.func52 rfl trivial ?_ rfl
  simp only [Tryz.ntmps52, List.size_toArray, List.length_cons, List.length_nil, Nat.reduceAdd, Nat.reduceSub, Array.replicate_succ, Array.replicate_zero, List.push_toArray, List.append_toArray, List.nil_append, List.cons_append]
  have c0 : (W.alloc (.cells #[.func (.yield l) #[] #[]] 107)).cell? ⟨Bn, 0, none⟩ = some (.string s) := (hst.alloc _).cell 0
  rcases chk_cases s.data.toList with ⟨hn1, hn2⟩ | ⟨hn1, hn2⟩
  · rw [hn2] at hCk
    rw [namL_yes hn1] at hY ⊢
    have HCk := Lib.hid hCk
    clear hCk hn2
    gi_wp2_with (first
      | (refine ⟨trivial, ?_⟩; gi_at_call 29; refine (HCk.out _).mono ?_; rintro e w1 ⟨rfl, hb1⟩; have b1 : Blk w1 Bn 9 #[.string s] := (hb1.block _ (by simp; omega)).trans (hst.alloc _); have c1 : (w1.alloc (.cells #[.int .i64 0] 3)).cell? ⟨Bn, 0, none⟩ = some (.string s) := (b1.alloc _).cell 0)
      | (refine ⟨trivial, ?_⟩; gi_at_call 51; refine (ends_in _ s _).mono ?_; rintro e w' ⟨rfl, rfl⟩))
    have hB1 : W.heap.size < w1.heap.size := by have := hb1.size; simp at this; omega
    have b0 : Blk w1 W.heap.size 107 #[.func (.yield l) #[] #[]] := (hb1.block _ (by simp)).trans (Blk.new W _ _)
    have hbW1 : Below W.heap.size W w1 := ((Below.refl _ _).alloc (Nat.le_refl _) _).trans (hb1.mono (by simp))
    obtain ⟨W0, hW0⟩ : ∃ W0, (w1.alloc (.cells #[.int .i64 0] 3)).alloc (.cells #[.string s] 9) = W0 := ⟨_, rfl⟩
    have hsz0 : W0.heap.size = w1.heap.size + 2 := by rw [← hW0]; simp
    have hb10 : Below w1.heap.size w1 W0 := by rw [← hW0]; exact ((Below.refl _ _).alloc (Nat.le_refl _) _).alloc (by simp) _
    have hbW : Below W.heap.size W W0 := hbW1.trans (hb10.mono hbW1.size)
    have y0 : Blk W0 W.heap.size 107 #[.func (.yield l) #[] #[]] := (hb10.block _ hB1).trans b0
    have n0 : Blk W0 Bn 9 #[.string s] := (hb10.block _ (by omega)).trans b1
    have g0 : Blk W0 w1.heap.size 3 #[.int .i64 0] := by rw [← hW0]; exact (Blk.new w1 _ _).alloc _
    have e0 : Blk W0 (w1.heap.size + 1) 9 #[.string s] := by
      rw [← hW0]
      have := Blk.new (w1.alloc (.cells #[.int .i64 0] 3)) 9 #[.string s]
      rw [World.size_alloc] at this
      exact this
    rw [hW0]
    clear hW0 b0 b1 c0 c1 hb1 hbW1 HCk hst
    apply rangeM (gf := 75) (lb := #[.pointer (some ⟨w1.heap.size + 1, 0, none⟩)]) rfl (enters_of Tryz.func75 (by kernel_rfl) rfl)
      (ends_M (w1.heap.size + 1) s hs W0 e0) (by omega) (Below.refl _ _) (fun _ => rfl)
      (fun X pre V => J X ((labs s.data.toList).1.take pre.length) V ∧ (Blk V W.heap.size 107 #[.func (.yield l) #[] #[]] ∧ Blk V Bn 9 #[.string s] ∧ Blk V w1.heap.size 3 #[.int .i64 (lastN pre : Int)]) ∧ W0.heap.size ≤ X ∧ W0.heap.size ≤ V.heap.size)
      (fun X c pre V => c = .ret ∧ Jx X ((labs s.data.toList).1.take pre.length) V ∧ W0.heap.size ≤ X)
      ?hI ?hIx ?h0
    case hI =>
      rintro X pre A A' ⟨h1, ⟨h2, h3, h4⟩, h5, h6⟩ ho
      exact ⟨hJ _ _ _ _ h1 (ho.wide hbW.size (Nat.le_refl _)), ⟨(ho.block _ (by omega) (.inl (by omega))).trans h2, (ho.block _ (by omega) (.inl (by omega))).trans h3, (ho.block _ (by omega) (.inl (by omega))).trans h4⟩, h5, Nat.le_trans h6 ho.size⟩
    case hIx =>
      rintro X c pre A A' ⟨h1, h2, h3⟩ ho
      exact ⟨h1, hJx _ _ _ _ h2 (ho.wide hbW.size (Nat.le_refl _)), h3⟩
    case h0 =>
      intro X V hV hX
      have h2 := hV.size
      refine ⟨h0 X V (hbW.trans (hV.mono hbW.size)) hX, ⟨(hV.block _ (by omega)).trans y0, (hV.block _ (by omega)).trans n0, (hV.block _ (by omega)).trans g0⟩, by omega, by omega⟩
    case hassign =>
      intro l' x V K hK
      gi_wp2
      exact hK
    case hbody =>
      rintro l' X pre x V hV ⟨hj, ⟨hy, hbn, hg⟩, hX, hV2⟩ hpre
      obtain ⟨hk, hq, rfl⟩ := ends_at hpre
      have c0 : V.cell? ⟨W.heap.size, 0, none⟩ = some (.func (.yield l) #[] #[]) := hy.cell 0
      have c1 : V.cell? ⟨Bn, 0, none⟩ = some (.string s) := hbn.cell 0
      have c2 : V.cell? ⟨w1.heap.size, 0, none⟩ = some (.int .i64 (lastN pre : Int)) := hg.cell 0
      have f2 := hg.frozen 0
      have hcut := cut_bytes hk
      have hle := pos_le (labs s.data.toList).1 (pre.length + 1)
      have hen := enc_le s.data.toList
      have hps := pos_succ hk
      have hsz : s.data.toList.length = s.size := by simp
      have hjd : J X ((labs s.data.toList).1.take pre.length) V.drew := hJ _ _ _ _ hj (.of_below ((Below.refl _ _).drew))
      obtain ⟨fn, tmps, assign, body, hyl, hR⟩ := yield_deep (m := n - 1 - 1 - 1) (hY X _ ((labs s.data.toList).1[pre.length]) V.drew hjd (by rw [← List.take_succ_eq_append_getElem hk]; exact List.take_prefix _ _))
      rw [← List.take_succ_eq_append_getElem hk] at hR
      rw [← hcut] at hyl
      rw [hq] at c2
      have hbnd : pos (labs s.data.toList).1 pre.length + 1 ≤ pos (labs s.data.toList).1 (pre.length + 1) ∧ pos (labs s.data.toList).1 (pre.length + 1) ≤ s.size := by omega
      have hlen : (pre ++ [pos (labs s.data.toList).1 (pre.length + 1)]).length = pre.length + 1 := by simp
      have hlast := lastN_snoc pre (pos (labs s.data.toList).1 (pre.length + 1))
      have hsI : (s.size : Int) ≤ 9223372036854775807 := by unfold maxLen at hs; omega
      generalize pos (labs s.data.toList).1 pre.length = p at hyl c2 hbnd
      generalize pos (labs s.data.toList).1 (pre.length + 1) = r at *
      have b1 : (p : Int) + 1 ≤ (r : Int) := by omega
      have b3 : (r : Int) ≤ 9223372036854775807 := by omega
      have b2 : (r : Int) ≤ (s.size : Int) := by omega
      have hwr : IntKind.i64.wrap ((p : Int) + 1) = ((p + 1 : Nat) : Int) := by rw [IntKind.wrap_i64]; omega
      have hsl : ∀ wx, (Instr.slice 9 (.string s) (some (.int .i64 (IntKind.i64.wrap ((p : Int) + 1)))) (some (.int .i64 (r : Int))) none).run Tryz.prog wx = .ok (.string (s.extract (p + 1) r)) wx := fun wx => by
        rw [hwr]
        exact run_slice_string (P := Tryz.prog) wx 9 s .i64 .i64 ((p + 1 : Nat) : Int) (r : Int) Tryz.underlying9 (by omega) (by omega) (by omega)
      clear hwr
      have hR2 : RoundIn (Fence.wide.inRound l') (n - 1 - 1 - 1) Tryz.prog l fn tmps assign body V.drew fun e W' => ∃ b, e = .returned (.bool b) ∧ Hid ((b = true ∧ J X ((labs s.data.toList).1.take (pre.length + 1)) W' ∧ KeepX W.heap.size X Bn (Bn + 1) V W') ∨ (b = false ∧ Jx X ((labs s.data.toList).1.take (pre.length + 1)) W' ∧ KeepX W.heap.size X Bn (Bn + 1) V W')) :=
        RoundIn.mono (F := Fence.wide) hR fun e W' h => by
          have kd : KeepX W.heap.size X Bn (Bn + 1) V V.drew := .of_below ((Below.refl _ _).drew)
          rcases h with ⟨he, h1, h2⟩ | ⟨he, h1, h2⟩
          · exact ⟨true, he, Lib.hid (.inl ⟨rfl, h1, kd.trans h2⟩)⟩
          · exact ⟨false, he, Lib.hid (.inr ⟨rfl, h1, kd.trans h2⟩)⟩
      have HE := Lib.hid (And.intro hlen hlast)
      have HB := Lib.hid (And.intro hy (And.intro hbn hg))
      have HW := Lib.hid (And.intro hbW (And.intro hB1 (And.intro hsz0 (And.intro hX (And.intro hV2 hBW)))))
      clear hcut hle hen hps hsz hR hbnd hj hjd h0 hY hlen hlast hq hk hpre hsI b3 y0 n0 g0 e0 hb10 hB1 hsz0 hX hV2 hBW hBn hy hbn hg hn1 hV hbW
      have HJ := Lib.hid (And.intro hJ hJx)
      clear hW hJ hJx hc hs
      gi_wp2_with (fail)
      have d0 : V.drew.cell? ⟨W.heap.size, 0, none⟩ = some (.func (.yield l) #[] #[]) := c0
      have d1 : V.drew.cell? ⟨Bn, 0, none⟩ = some (.string s) := c1
      have d2 : V.drew.cell? ⟨w1.heap.size, 0, none⟩ = some (.int .i64 (p : Int)) := c2
      refine region_still (by kernel_rfl) [⟨0, 11, .func (.yield l) #[] #[]⟩, ⟨1, 12, .string s⟩, ⟨2, 13, .int .i64 (p : Int)⟩, ⟨3, 14, .int .i64 (IntKind.i64.wrap ((p : Int) + 1))⟩, ⟨4, 15, .int .i64 (r : Int)⟩, ⟨5, 16, .string (s.extract (p + 1) r)⟩]
        2 #[true, true, true, true, true, true, false, false] ?hL ?hfin ?hchk ?h0 _ rfl ?hp ?H
      case hL => simp [apartL]
      case hfin => simp
      case hchk => kernel_rfl
      case h0 => rfl
      case hp =>
        simp only [fillS, List.foldl, Act.put]
        intro r hr
        simp only [List.mem_cons, List.not_mem_nil, or_false] at hr
        rcases hr with rfl | rfl | rfl | rfl | rfl | rfl
        all_goals
          refine ⟨_, rfl, rfl, by simp, by simp, ?_, rfl⟩
          go_simp
          try rfl
      case H =>
        simp only [fillS, List.foldl, Act.put]
        refine wpAnyIn_ready (rs := [6]) (by kernel_rfl) (by simp) ?_
        refine AllReadyIn.cons rfl (fun K hK => ?_) AllReadyIn.nil
        go_simp
        refine ⟨fun h => by simp [Fence.wide] at h, ?_⟩
        refine hR2.mono ?_
        rintro e W3 ⟨b, rfl, hfin⟩
        refine hK _ _ ?_
        clear hK K
        refine wpAnyIn_ready (rs := [7]) (by kernel_rfl) (by simp) ?_
        refine AllReadyIn.cons rfl (fun K hK => ?_) AllReadyIn.nil
        go_simp
        refine hK _ _ ?_
        clear hK K
        refine wpAnyIn_done (by kernel_rfl) ?_ _
        obtain ⟨hJ, hJx⟩ := HJ.out
        obtain ⟨hy, hbn, hg⟩ := HB.out
        obtain ⟨hbW, hB1, hsz0, hX, hV2, hBW⟩ := HW.out
        have hs2 := hbW.size
        rcases hfin.out with ⟨rfl, h1, h2⟩ | ⟨rfl, h1, h2⟩
        · have y3 : Blk W3 W.heap.size 107 #[.func (.yield l) #[] #[]] := (h2.same _ (by omega) (.inl ⟨by omega, by omega⟩)).trans hy
          have n3 : Blk W3 Bn 9 #[.string s] := (h2.same _ (by omega) (.inr ⟨Nat.le_refl _, by omega⟩)).trans hbn
          have g3 : Blk W3 w1.heap.size 3 #[.int .i64 (lastN pre : Int)] := (h2.same _ (by omega) (.inl ⟨by omega, by omega⟩)).trans hg
          have c3 := g3.cell 0
          have f3 := g3.frozen 0
          have z3 := h2.size
          have hK : KeepX W0.heap.size X (w1.heap.size + 1) (w1.heap.size + 1 + 1) V (W3.setCell ⟨w1.heap.size, 0, none⟩ (.int .i64 (r : Int))) :=
            KeepX.trans ⟨h2.size, fun i hi ho => h2.same i hi (by omega)⟩ (.cell _ (by show (w1.heap.size < _ ∨ _) ∧ (w1.heap.size < _ ∨ _); omega))
          have hO : Out W.heap.size X W3 (W3.setCell ⟨w1.heap.size, 0, none⟩ (.int .i64 (r : Int))) := .cell _ ⟨by show _ ≤ w1.heap.size; omega, by show w1.heap.size < _; omega⟩
          have FIN := Lib.hid (And.intro hK (And.intro (hJ _ _ _ _ h1 hO) (And.intro (y3.far (p := ⟨w1.heap.size, 0, none⟩) (show W.heap.size ≠ w1.heap.size by omega) (.int .i64 (r : Int))) (And.intro (n3.far (p := ⟨w1.heap.size, 0, none⟩) (show Bn ≠ w1.heap.size by omega) (.int .i64 (r : Int))) (g3.set_ 0 (.int .i64 (r : Int)))))))
          have HS := Lib.hid (And.intro hX (Nat.le_trans hV2 z3))
          clear hK hO h1 h2 hfin hy hbn hg hX hV2 z3 y3 n3 hJ hJx HJ HB HW hbW
          gi_wp2_with (fail)
          obtain ⟨hK, hj, hy, hn, hg⟩ := FIN.out
          refine ⟨hK, ?_, ⟨hy, hn, ?_⟩, HS.out.1, ?_⟩
          · rw [HE.out.1]; exact hj
          · rw [HE.out.2]; exact hg
          · have := HS.out.2; simpa using this
        · have FIN := Lib.hid (And.intro h1 (And.intro h2 (And.intro hX hs2)))
          clear h1 h2 hfin hy hbn hg hV2 hJ hJx HJ HB HW hbW hs2 hX
          gi_wp2_with (fail)
          obtain ⟨hj, hk, hX, hs2⟩ := FIN.out
          refine ⟨⟨hk.size, fun i hi ho => hk.same i hi (by omega)⟩, rfl, ?_, hX⟩
          rw [HE.out.1]; exact hj
    case hdone =>
      rintro D X V hD hD2 ⟨hj, _, hX, hV2⟩ hK
      rw [ends_done] at hj
      gi_wp2_with (fail)
      exact ⟨by simp, .inl ⟨_, _, rfl, run_takeDeferred hK, _, results_none rfl _ _ _, ⟨_, rfl⟩, X, .inl (hJ _ _ _ _ hj (.put _ ⟨by have := hbW.size; omega, by omega⟩))⟩⟩
    case hstop =>
      rintro D X c pre V hD hD2 hpre ⟨rfl, hj, hX⟩ hK
      gi_wp2_with (fail)
      exact ⟨by simp, .inl ⟨_, _, rfl, run_takeDeferred hK, _, results_none rfl _ _ _, ⟨_, rfl⟩, X, .inr ⟨_, List.take_prefix _ _, hJx _ _ _ _ hj (.put _ ⟨by have := hbW.size; omega, by omega⟩)⟩⟩⟩
  · rw [hn2] at hCk
    rw [namL_no hn1]
    have HCk := Lib.hid hCk
    clear hCk hn2
    gi_wp2_with (refine ⟨trivial, ?_⟩; gi_at_call 29; refine (HCk.out _).mono ?_; rintro e w1 ⟨rfl, hb1⟩)
    exact ⟨_, results_none rfl _ _ _, ⟨_, rfl⟩, _, .inl (h0 _ w1 (((Below.refl _ _).alloc (Nat.le_refl _) _).trans (hb1.mono (by simp))) rfl)⟩
end Go.Proofs.YthnngndnpigjbaaGreat
