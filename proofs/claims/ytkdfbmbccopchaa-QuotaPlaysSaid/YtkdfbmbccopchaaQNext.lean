/- The walk of package quota's Next. -/
import Derived.Test.YtkdfbmbccopchaaPut
namespace Go.Proofs.Ytkdfbmbccopchaa
open Go.RowKit Go.Lib

/-- What Next leaves, and tells. -/
def nextQ : Cl → Cl × Int × Int × Bool
  | [] => ([], 0, 0, false)
  | (a, ids) :: t => match ids with
    | [] => ((a, ids) :: t, 0, 0, false)
    | x :: l => (if l = [] then t else t ++ [(a, l)], a, x, true)
def NextPost (g n room each : Nat) (cl : Cl) (O : Nat → Prop) (w : World) (e : Ending) (w' : World) : Prop :=
  e = .returned (.tuple #[.int .u32 (nextQ cl).2.1, .int .i64 (nextQ cl).2.2.1, .bool (nextQ cl).2.2.2]) ∧ QS w' g (n + 1) room each (nextQ cl).1 (After O w w') ∧ KeepK (fun i => i < w.heap.size ∧ ¬ O i) w w'

set_option maxRecDepth 100000 in
set_option maxHeartbeats 2000000 in
theorem Next_none {g n room each : Nat} {O : Nat → Prop} (w : World) (h : QS w g n room each [] O) :
    Calls Try.prog 15 #[.pointer (some ⟨g, 0, none⟩)] w (NextPost g n room each [] O w) := by
  have HQ := Lib.hid h
  obtain ⟨mb, rv, F, ⟨h1, h2, h3⟩, ⟨_, h5, _⟩, _⟩ := h
  obtain ⟨A, c, hF, _, _⟩ := h2.shape
  subst hF
  have c3 : w.cell? ⟨g, 3, none⟩ = some (.slice A 0 c) := h1.cell 3
  clear h1 h2 h3 h5
  go_enter Try.func15, Try.ntmps15
  go_wp2_with (fail)
  go_ret3
  exact ⟨rfl, HQ.out.more (Nat.le_succ _) (fun i hi => .inl hi), KeepK.refl _ _⟩

set_option maxRecDepth 100000 in
set_option maxHeartbeats 8000000 in
theorem Next_some {g n room each : Nat} {O : Nat → Prop} {a x : Int} {l : List Int} {t : Cl} (w : World) (h : QS w g n room each ((a, x :: l) :: t) O) (hn : n ≤ 1000000) (ht : t.length + 1 ≤ 1000000) (hl : l.length + 1 ≤ 1000000) (hmany : manyC ((a, x :: l) :: t) ≤ 1000000) :
    Calls Try.prog 15 #[.pointer (some ⟨g, 0, none⟩)] w (NextPost g n room each ((a, x :: l) :: t) O w) := by
  obtain ⟨k0, hk0, hq0, hq1, hq2⟩ := info_parts info_u32d
  obtain ⟨mb, rv, F, ⟨h1, h2, h3⟩, ⟨h4, h5, h6⟩, ho⟩ := h
  obtain ⟨h0, hm, _⟩ := h4.ok (a, x :: l) (by simp)
  have hga : getC ((a, x :: l) :: t) a = x :: l := by unfold getC; rw [if_pos rfl]
  have ho' := ho
  obtain ⟨⟨o1, o2, o3⟩, o4, o5, o6⟩ := ho'
  have h2' := h2
  obtain ⟨rg, cap, rfl, hrg, hrc, _, hrcell⟩ := h2.form (by simp)
  have h5a := h5 a
  rw [hga] at h5a
  obtain ⟨ig, ic, hFA, hig, hii, _, hicell⟩ := h5a.form (by simp)
  have c3 : w.cell? ⟨g, 3, none⟩ = some (.slice (some ⟨rg, 0, none⟩) (t.length + 1) cap) := h1.cell 3
  have c3' : w.cell? ⟨rg, 0, none⟩ = some (.int .u32 a) := hrcell 0 _ rfl
  have f3 : w.frozen? ⟨g, 3, none⟩ = false := h1.frozen 3
  have hgl : g < w.heap.size := h1.lt
  have hgr : g ≠ rg := fun e => (o4 rg rfl).2.1 e.symm
  have hmr : mb ≠ rg := fun e => (o4 rg rfl).2.2 e.symm
  have hFk : ∀ b k, (F b).ownBlock = some k → k < w.heap.size ∧ k ≠ g ∧ k ≠ mb ∧ k ≠ rg := fun b k hk => ⟨(h5 b).lt k hk, (o5 b k hk).2.1, (o5 b k hk).2.2.1, fun e => (o5 b k hk).2.2.2 (by rw [e]; rfl)⟩
  have higk := hFk a ig (by rw [hFA]; rfl)
  have hdel := deleteU_any rg cap (t.length + 1) 0 ((((a, x :: l) :: t) : Cl).map fun p => u32V p.1) w h2' (fun u hu => by obtain ⟨p, _, rfl⟩ := List.mem_map.1 hu; rfl) (by omega) (by omega)
  rw [Nat.add_sub_cancel, show ((0 : Nat) : Int) = 0 from rfl, show (0 : Int) + 1 = 1 from rfl] at hdel
  have HD := Lib.hid hdel
  have HST := Lib.hid (And.intro h1 (And.intro h2' (And.intro h3 (And.intro h4 (And.intro h5 (And.intro h6 ho))))))
  obtain ⟨m, hmm⟩ : ∃ m, manyC ((a, x :: l) :: t) = m := ⟨_, rfl⟩
  have hm1 : m = l.length + 1 + manyC t := by rw [← hmm, manyC_cons]; simp
  have hmI : (m : Int) ≤ 1000000 := by omega
  have hlI : (l.length : Int) ≤ 1000000 := by omega
  have htI : (t.length : Int) ≤ 1000000 := by omega
  have hcapI : (t.length : Int) + 1 ≤ (cap : Int) := by simp at hrc; omega
  have HNN := Lib.hid (And.intro hn (And.intro hmm (And.intro hm1 (And.intro hFk (And.intro h0 (And.intro hm (And.intro hFA hga)))))))
  clear h1 h2 h2' h3 h4 h5 h6 ho o1 o2 o3 o4 o5 o6 hrcell hicell h5a hdel hmm hm1 hFk hmany hn
  go_enter Try.func15, Try.ntmps15
  go_wp2_with (fail)
  with_reducible refine HD.out.mono ?_
  rintro e w1 ⟨rfl, hd1, hd2⟩
  have HD1 := Lib.hid (And.intro hd1 hd2)
  have d3 : w1.cell? ⟨g, 3, none⟩ = some (.slice (some ⟨rg, 0, none⟩) (t.length + 1) cap) := (hd2.cell (p := ⟨g, 3, none⟩) ⟨hgl, hgr⟩).trans c3
  have e3 : w1.frozen? ⟨g, 3, none⟩ = false := (hd2.frozen (p := ⟨g, 3, none⟩) ⟨hgl, hgr⟩).trans f3
  clear hd1 hd2 c3 c3' f3
  obtain ⟨W1, hW1⟩ : ∃ W1, w1.setCell ⟨g, 3, none⟩ (.slice (some ⟨rg, 0, none⟩) t.length cap) = W1 := ⟨_, rfl⟩
  have hKW : KeepK (fun i => i < w.heap.size ∧ i ≠ rg ∧ i ≠ g) w W1 := by
    rw [← hW1]; exact (HD1.out.2.mono fun i hi => ⟨hi.1, hi.2.1⟩).setCell (p := ⟨g, 3, none⟩) (fun i hi => hi.2.2) _
  have hB1 : Blk W1 g 92 #[.int .i64 (room : Int), .int .i64 (each : Int), .int .i64 (m : Int), .slice (some ⟨rg, 0, none⟩) t.length cap, .map (some mb)] := by
    rw [← hW1, ← HNN.out.2.1]
    exact (HST.out.1.keepK HD1.out.2 ⟨hgl, hgr⟩).set_ 3 _
  have hR1 : Sl W1 1 (.slice (some ⟨rg, 0, none⟩) t.length cap) t.length (t.map fun p => u32V p.1) := by
    rw [← hW1]
    exact HD1.out.1.far (p := ⟨g, 3, none⟩) (fun k hk => by
      have hk2 : rg = k := by simpa [Value.ownBlock] using hk
      exact fun e => hgr (by rw [hk2]; exact e.symm)) _
  have hM1 : MapF W1 mb n F := HST.out.2.2.1.keepK hKW ⟨HST.out.2.2.1.lt, hmr, fun e => HST.out.2.2.2.2.2.2.1.2.2 e.symm⟩
  have hI1 : Sl W1 1 (.slice (some ⟨ig, 0, none⟩) (l.length + 1) ic) (l.length + 1) ((x :: l).map i64V) := by
    have h := HST.out.2.2.2.2.1 a
    rw [HNN.out.2.2.2.2.2.2.2, HNN.out.2.2.2.2.2.2.1] at h
    exact h.keepK hKW fun k hk => by
      have : ig = k := by simpa [Value.ownBlock] using hk
      subst this
      exact ⟨higk.1, higk.2.2.2, higk.2.1⟩
  have hlk := hM1.look HNN.out.2.2.2.2.1 HNN.out.2.2.2.2.2.1
  rw [HNN.out.2.2.2.2.2.2.1] at hlk
  have b4 : W1.cell? ⟨g, 4, none⟩ = some (.map (some mb)) := hB1.cell 4
  have i0 : W1.cell? ⟨ig, 0, none⟩ = some (.int .i64 x) := hI1.cell rfl rfl
  have hgl1 : g < W1.heap.size := hB1.lt
  have HW := Lib.hid (And.intro hKW (And.intro hB1 (And.intro hR1 (And.intro hM1 hI1))))
  clear hKW hB1 hR1 hM1 hI1
  go_upto_if 43 with (fail)
  obtain ⟨cl', hcl'⟩ : ∃ cl' : Cl, (if l = [] then t else t ++ [(a, l)]) = cl' := ⟨_, rfl⟩
  go_cut [] (fun wx => ∃ rv' v', Aside (Blk wx g 92 #[.int .i64 (room : Int), .int .i64 (each : Int), .int .i64 (m : Int), rv', .map (some mb)]) ∧ Aside (Sl wx 1 rv' cl'.length (cl'.map fun p => u32V p.1)) ∧ Aside (MapF wx mb (n + 1) (upd F a v')) ∧ Aside (Sl wx 1 v' l.length (l.map i64V) ∧ (l = [] → v' = nilS)) ∧ Aside (KeepQ w g mb (.slice (some ⟨rg, 0, none⟩) (t.length + 1) cap) (F a) wx) ∧ Aside (∀ k, v'.ownBlock = some k → (F a).ownBlock = some k) ∧ Aside (∀ k, rv'.ownBlock = some k → k = rg ∨ (w.heap.size ≤ k ∧ k < wx.heap.size)))
  case first =>
    by_cases hl0 : l = []
    · subst hl0
      obtain ⟨w2, hrun2, hm2, ht2⟩ := HW.out.2.2.2.1.del h0 hm 0
      have hc0 : t = cl' := hcl'
      have H2 := Lib.hid (And.intro hm2 (And.intro ht2 hc0))
      clear hm2 ht2 hc0 hcl'
      go_wp2_with (fail)
      go_meet
      case rel =>
        obtain ⟨hm2, ht2, hc0⟩ := H2.out
        have hk := keep_turned ht2
        obtain ⟨hKW, hB1, hR1, hM1, hI1⟩ := HW.out
        refine ⟨.slice (some ⟨rg, 0, none⟩) t.length cap, nilS, hB1.keepK hk ⟨hgl1, HST.out.2.2.2.2.2.2.1.2.2⟩, ?_, ?_, ⟨Sl.nil _ _, fun _ => rfl⟩, ?_, (show Aside _ from fun k hk => by simp [nilS, Value.ownBlock] at hk), (show Aside _ from fun k hk => .inl (by simpa [Value.ownBlock] using hk.symm))⟩
        · show Sl _ _ _ _ _
          rw [← hc0]
          exact hR1.keepK hk fun k e => ⟨hR1.lt k e, fun e2 => hmr ((show rg = k by simpa [Value.ownBlock] using e).trans e2).symm⟩
        · obtain ⟨D, hD, hF⟩ := hm2
          exact ⟨D, hD.mono (Nat.le_succ _), hF⟩
        · exact (hKW.mono fun i hi => ⟨hi.1, fun e => hi.2.2.2.1 (by rw [e]; rfl), hi.2.1⟩).trans (hk.mono fun i hi => ⟨Nat.lt_of_lt_of_le hi.1 hKW.size, hi.2.2.1⟩)
    · have hc0 : t ++ [(a, l)] = cl' := by rw [← hcl', if_neg hl0]
      have hlp : 1 ≤ l.length := List.length_pos_iff.2 hl0
      have hln : (((l.length : Nat) : Int) + 1 == 1) = false := by simp; omega
      have hI1 := HW.out.2.2.2.2
      have hdi := deleteI_any ig ic (l.length + 1) 0 ((x :: l).map i64V) (W1.drewN 1) (hI1.drewN 1) (fun u hu => by obtain ⟨p, _, rfl⟩ := List.mem_map.1 hu; rfl) (by omega) hl
      rw [Nat.add_sub_cancel, show ((0 : Nat) : Int) = 0 from rfl, show (0 : Int) + 1 = 1 from rfl] at hdi
      have HDI := Lib.hid hdi
      have hnb : n < maxLen := by have := HNN.out.1; unfold maxLen; omega
      have k4 : ∀ w4 : World, KeepK (fun k => k < (W1.drewN 1).heap.size ∧ k ≠ ig) (W1.drewN 1) w4 → KeepK (fun k => k < W1.heap.size ∧ k ≠ ig) W1 w4 ∧ MapF w4 mb n F ∧ w4.cell? ⟨g, 4, none⟩ = some (.map (some mb)) := fun w4 hk => by
        have hk' : KeepK (fun k => k < W1.heap.size ∧ k ≠ ig) W1 w4 := ((KeepK.refl _ W1).drewN 1).trans hk
        exact ⟨hk', HW.out.2.2.2.1.keepK hk' ⟨HW.out.2.2.2.1.lt, fun e => higk.2.2.1 e.symm⟩, (hk'.cell (p := ⟨g, 4, none⟩) ⟨hgl1, fun e => higk.2.1 e.symm⟩).trans b4⟩
      have k5 : ∀ (w4 w5 : World), w4.cell? ⟨g, 4, none⟩ = some (.map (some mb)) → w4.mapTurned w5 mb → w5.cell? ⟨g, 4, none⟩ = some (.map (some mb)) := fun w4 w5 hc ht =>
        ((keep_turned ht).cell (p := ⟨g, 4, none⟩) ⟨World.block_lt_of_cell? _ _ hc, HST.out.2.2.2.2.2.2.1.2.2⟩).trans hc
      have K4 := Lib.hid (And.intro k4 k5)
      have HC0 := Lib.hid (And.intro hc0 hl0)
      clear hdi hI1 k4 k5 hcl' hc0 hl0 hlp hlk i0
      go_wp2_with (fail)
      go_region_held3 (fun w' => w'.cell? ⟨g, 4, none⟩ = some (.map (some mb))) (first | assumption | exact b4)
        ((go_at_call 53; refine (HDI.out).mono ?_; rintro e w4 ⟨rfl, hs4, hk4⟩; obtain ⟨hk4', hm4, hc4⟩ := K4.out.1 w4 hk4; obtain ⟨w5, hrun5, hm5, ht5⟩ := hm4.put hnb h0 hm (.slice (some ⟨ig, 0, none⟩) l.length ic); have hc5 := K4.out.2 w4 w5 hc4 ht5; have H5 := Lib.hid (And.intro hs4 (And.intro hk4' (And.intro hm5 ht5))); clear hs4 hk4 hk4' hm4 hm5 ht5))
      have hk5 : KeepK (fun k => k < W1.heap.size ∧ k ≠ ig ∧ k ≠ mb) W1 w5 := (H5.out.2.1.mono fun i hi => ⟨hi.1, hi.2.1⟩).trans ((keep_turned H5.out.2.2.2).mono fun i hi => ⟨Nat.lt_of_lt_of_le hi.1 H5.out.2.1.size, hi.2.2⟩)
      have hB5 : Blk w5 g 92 #[.int .i64 (room : Int), .int .i64 (each : Int), .int .i64 (m : Int), .slice (some ⟨rg, 0, none⟩) t.length cap, .map (some mb)] := HW.out.2.1.keepK hk5 ⟨hgl1, fun e => higk.2.1 e.symm, HST.out.2.2.2.2.2.2.1.2.2⟩
      have hrgk : ∀ k, (Value.slice (some ⟨rg, 0, none⟩) t.length cap).ownBlock = some k → rg = k := fun k hk => by simpa [Value.ownBlock] using hk
      have hR5 : Sl w5 1 (.slice (some ⟨rg, 0, none⟩) t.length cap) t.length (t.map fun p => u32V p.1) := HW.out.2.2.1.keepK hk5 fun k hk => by
        have e := hrgk k hk
        subst e
        exact ⟨HW.out.2.2.1.lt _ hk, fun e => higk.2.2.2 e.symm, fun e => hmr e.symm⟩
      have e5 : w5.cell? ⟨g, 3, none⟩ = some (.slice (some ⟨rg, 0, none⟩) t.length cap) := hB5.cell 3
      have p5 : w5.frozen? ⟨g, 3, none⟩ = false := hB5.frozen 3
      have hgl5 : g < w5.heap.size := hB5.lt
      have HR5 := Lib.hid hR5
      have HB5 := Lib.hid (And.intro hB5 (And.intro hk5 hrgk))
      clear hk5 hB5 hR5 hrgk hrun5 hc4 hc5 b4
      go_wp2_with (at_builtin; go_must (refine wpList_append_sl _ rfl (.tmp 60) (.tmp 62) 33 33 rfl 28 k0 (.int .u32 0) 1 4 Try.underlying33 hk0 hq0 hq1 hq2 rfl (.slice (some ⟨rg, 0, none⟩) t.length cap) t.length (t.map fun p : Int × List Int => u32V p.1) rfl (HR5.out.alloc _) _ rfl 1 [.int .u32 a] (src_new (P := Try.prog) Try.underlying33 w5 28 (.int .u32 a) rfl) (by unfold maxLen; omega) (by omega) ?_); intro v6 w6 hs6 hg6 hv6; obtain ⟨A6, c6, rfl, _, _⟩ := hs6.shape; have hkk : KeepK (fun i => i < w5.heap.size ∧ i ≠ rg) w5 w6 := ((KeepK.refl _ w5).alloc (fun i hi => hi.1) _).grown hg6 (fun i hi => by have := hi.1; simp; omega) (fun i hi e => hi.2 (by simpa [Value.ownBlock] using e)); have d6 : w6.cell? ⟨g, 3, none⟩ = some (.slice (some ⟨rg, 0, none⟩) t.length cap) := (hkk.cell (p := ⟨g, 3, none⟩) ⟨hgl5, hgr⟩).trans e5; have f6 : w6.frozen? ⟨g, 3, none⟩ = false := (hkk.frozen (p := ⟨g, 3, none⟩) ⟨hgl5, hgr⟩).trans p5; have H6 := Lib.hid (And.intro hs6 (And.intro hg6 (And.intro hv6 hkk))); clear hs6 hg6 hv6 hkk)
      go_meet
      case rel =>
        obtain ⟨hs6, hg6, hv6, hkk⟩ := H6.out
        obtain ⟨hB5, hk5, hrgk⟩ := HB5.out
        obtain ⟨hs4, hk4, hm5, ht5⟩ := H5.out
        have hKW := HW.out.1
        have hz1 := hKW.size
        have hz5 := hk5.size
        have hz6 := hkk.size
        have hmbl := HST.out.2.2.1.lt
        have hgmb := HST.out.2.2.2.2.2.2.1.2.2
        obtain ⟨v6, hv6e⟩ : ∃ v6, Value.slice A6 (t.length + 1) c6 = v6 := ⟨_, rfl⟩
        rw [hv6e] at hs6 hv6 ⊢
        have own6 : ∀ k, v6.ownBlock = some k → k = rg ∨ (w5.heap.size ≤ k ∧ k < w6.heap.size) := fun k hk => by
          rcases hv6 with e | e
          · left; exact (hrgk k (e.symm.trans hk)).symm
          · right
            have hlt := hs6.lt k hk
            rw [e] at hk
            have hk2 : (w5.alloc (.cells #[.int .u32 a] 28)).heap.size = k := Option.some.inj hk
            rw [World.size_alloc] at hk2
            omega
        have hne6 : ∀ k, v6.ownBlock = some k → k ≠ g := fun k hk e => by
          rcases own6 k hk with h | h
          · exact hgr (e.symm.trans h)
          · omega
        refine ⟨v6, .slice (some ⟨ig, 0, none⟩) l.length ic, (hB5.keepK hkk ⟨hgl5, hgr⟩).set_ 3 v6, ?_, ?_, ⟨?_, fun h => absurd h HC0.out.2⟩, ?_, (show Aside _ from fun k hk => ?_), (show Aside _ from fun k hk => ?_)⟩
        · show Sl _ _ _ _ _
          rw [← HC0.out.1, List.length_append, List.map_append]
          exact hs6.far (p := ⟨g, 3, none⟩) hne6 _
        · exact (hm5.keepK hkk ⟨by have := hm5.lt; omega, hmr⟩).keepK (K := fun i => i ≠ g) ((KeepK.refl _ _).setCell (p := ⟨g, 3, none⟩) (fun i hi => hi) _) hgmb.symm
        · have h1 : Sl w4 1 (.slice (some ⟨ig, 0, none⟩) l.length ic) l.length (l.map i64V) := hs4
          have hio : ∀ k, (Value.slice (some ⟨ig, 0, none⟩) l.length ic).ownBlock = some k → ig = k := fun k hk => by simpa [Value.ownBlock] using hk
          have h2 := h1.keepK (keep_turned ht5) fun k hk => ⟨h1.lt k hk, by rw [← hio k hk]; exact higk.2.2.1⟩
          have h3 := h2.keepK hkk fun k hk => ⟨h2.lt k hk, by rw [← hio k hk]; exact higk.2.2.2⟩
          exact h3.far (p := ⟨g, 3, none⟩) (fun k hk => by rw [← hio k hk]; exact higk.2.1) _
        · have hA : ∀ i, (F a).ownBlock ≠ some i → i ≠ ig := fun i h e => h (by rw [HNN.out.2.2.2.2.2.2.1, e]; rfl)
          have hB : ∀ i, (Value.slice (some ⟨rg, 0, none⟩) (t.length + 1) cap).ownBlock ≠ some i → i ≠ rg := fun i h e => h (by rw [e]; rfl)
          exact ((((hKW.mono fun i hi => ⟨hi.1, hB i hi.2.2.2.1, hi.2.1⟩).trans (hk5.mono fun i hi => ⟨Nat.lt_of_lt_of_le hi.1 hz1, hA i hi.2.2.2.2, hi.2.2.1⟩)).trans (hkk.mono fun i hi => ⟨by have := hi.1; omega, hB i hi.2.2.2.1⟩)).setCell (p := ⟨g, 3, none⟩) (fun i hi => hi.2.1) _)
        · rw [HNN.out.2.2.2.2.2.2.1]; exact hk
        · rcases own6 k hk with h | h
          · exact .inl h
          · right; refine ⟨by omega, ?_⟩; simpa [World.setCell] using h.2
  case rest =>
    obtain ⟨rv', v', hb1, hb2, hb3, hb4, hb5, hb6, hb7⟩ := hcut
    obtain ⟨w2, rfl⟩ : ∃ w2, w2 = wc := ⟨_, rfl⟩
    have e2 : w2.cell? ⟨g, 2, none⟩ = some (.int .i64 (m : Int)) := hb1.out.cell 2
    have p2 : w2.frozen? ⟨g, 2, none⟩ = false := hb1.out.frozen 2
    have hm1I : 1 ≤ (m : Int) := by have := HNN.out.2.2.1; omega
    go_wp2_with (fail)
    go_ret3
    have hsz : (w2.setCell ⟨g, 2, none⟩ (.int .i64 ((m : Int) - 1))).heap.size = w2.heap.size := by simp [World.setCell]
    have hmc : ((m : Int) - 1) = (manyC cl' : Int) := by
      have h1 := HNN.out.2.2.1
      rw [← hcl']
      by_cases hl0 : l = []
      · rw [if_pos hl0]; rw [hl0] at h1; simp at h1; omega
      · rw [if_neg hl0, manyC_append]
        have : manyC [(a, l)] = l.length := by simp [manyC]
        omega
    have hok := HST.out.2.2.2.1
    have hnd := (List.nodup_cons.1 hok.nodup).1
    have hta : ∀ p ∈ t, p.1 ≠ a := fun p hp e => hnd (by
      show a ∈ t.map Prod.fst
      rw [← e]; exact List.mem_map.2 ⟨p, hp, rfl⟩)
    have higlt := higk.1
    have hfin := qs_turn (O := O) (room := room) (each := each) (cl' := cl') (a := a) (ys := l) (rv' := rv') (v' := v') (n' := n + 1) (w' := w2.setCell ⟨g, 2, none⟩ (.int .i64 ((m : Int) - 1))) hgl HST.out.2.1 HST.out.2.2.1.lt HST.out.2.2.2.2.1 HST.out.2.2.2.2.2.1 HST.out.2.2.2.2.2.2
      (by
        have h := hb1.out.set_ 2 (.int .i64 ((m : Int) - 1))
        rw [← hmc]
        exact h)
      (hb2.out.far (p := ⟨g, 2, none⟩) (fun k hk e => by
        rcases hb7.out k hk with h | h
        · exact hgr (e.symm.trans h)
        · have : k = g := e
          omega) _)
      (hb3.out.keepK (K := fun i => i ≠ g) ((KeepK.refl _ _).setCell (p := ⟨g, 2, none⟩) (fun i hi => hi) _) (fun e => HST.out.2.2.2.2.2.2.1.2.2 e.symm))
      (by
        rw [← hcl']
        by_cases hl0 : l = []
        · rw [if_pos hl0]; exact hok.tail
        · rw [if_neg hl0]; exact hok.turn hl0)
      (hb4.out.1.far (p := ⟨g, 2, none⟩) (fun k hk => (HNN.out.2.2.2.1 a k (hb6.out k hk)).2.1) _)
      (fun b => by
        rw [← hcl']
        by_cases hl0 : l = []
        · rw [if_pos hl0]
          by_cases hb : b = a
          · rw [if_pos hb, hl0, hb]; exact getC_none hta
          · rw [if_neg hb]
            conv => rhs; unfold getC
            rw [if_neg (fun e => hb e.symm)]
        · rw [if_neg hl0, getC_append t a l b hta]
          by_cases hb : b = a
          · rw [if_pos hb, if_pos hb]
          · rw [if_neg hb, if_neg hb]
            conv => rhs; unfold getC
            rw [if_neg (fun e => hb e.symm)])
      hb4.out.2
      ((show KeepK _ _ _ from hb5.out).setCell (p := ⟨g, 2, none⟩) (fun i hi => hi.2.1) _)
      (fun k hk => .inl (hb6.out k hk))
      (fun k hk => by
        rcases hb7.out k hk with h | h
        · left; rw [h]; rfl
        · right; rw [hsz]; exact h)
      (fun k hk e => by
        have h1 := HNN.out.2.2.2.1 a k (hb6.out k hk)
        rcases hb7.out k e with h | h
        · exact h1.2.2.2 h
        · omega)
    refine ⟨rfl, ?_, hfin.2⟩
    show QS _ _ _ _ _ (if l = [] then t else t ++ [(a, l)]) _
    rw [hcl']
    exact hfin.1
theorem Next_q {g n room each : Nat} {cl : Cl} {O : Nat → Prop} (w : World) (h : QS w g n room each cl O) (hn : n ≤ 1000000) (hcl : cl.length ≤ 100000) (hmany : manyC cl ≤ 100000) :
    Calls Try.prog 15 #[.pointer (some ⟨g, 0, none⟩)] w (NextPost g n room each cl O w) := by
  match cl, h, hcl, hmany with
  | [], h, _, _ => exact Next_none w h
  | (a, []) :: t, h, _, _ =>
    obtain ⟨_, _, _, _, ⟨h4, _⟩, _⟩ := h
    exact absurd rfl (h4.ok (a, []) (by simp)).2.2
  | (a, x :: l) :: t, h, hcl, hmany =>
    refine Next_some w h hn (by simp at hcl; omega) ?_ (by omega)
    rw [manyC_cons] at hmany
    simp at hmany
    omega
end Go.Proofs.Ytkdfbmbccopchaa
