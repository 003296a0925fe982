/- The walk of scrub.Glue. Conditions: none. -/
import Derived.Test.YthjkdpphbipgfaaGlueM
import Derived.Sort.CutIn
namespace Go.Proofs.Ythjkdpphbipgfaa
open Go.RowKit Go.Shelf Go.Lib
attribute [local go_sem] Oper.semAt_some

set_option maxRecDepth 100000 in
set_option maxHeartbeats 4000000 in
theorem glue_any (m : MRec) (z : ByteArray) (hs : m.Small) (hz : z.size ≤ maxLen) (w : World) (hm : m.In w) :
    Calls Try.prog 14 #[m.val, .string z] w (CollPostR (glueL z.data.toList m.s m.h m.e) w) := by
  obtain ⟨i0, hi0, hz0, hz1, hz2⟩ := info_parts info_rr
  obtain ⟨n, hn⟩ : ∃ n : Nat, 8 ≤ n := ⟨8, by omega⟩
  have HM := Lib.hid (And.intro hm (And.intro hs hz))
  clear hm hs hz
  refine (callsIn_wide (n := n)).1 ?_
  have h1n : 1 ≤ n := by omega
  refine callsIn_of_wp_marks Try.func14 rfl trivial ?_ rfl
  simp only [Try.ntmps14, List.size_toArray, List.length_cons, List.length_nil, Nat.reduceAdd, Nat.reduceSub, Array.replicate_succ, Array.replicate_zero, List.push_toArray, List.append_toArray, List.nil_append, List.cons_append, MRec.val]
  gi_upto_region 1 with (fail)
  obtain ⟨W1, hW1⟩ : ∃ W1, w.alloc (.cells #[.int .u16 m.id, .int .u16 m.bi, .slice m.qA m.q.length m.qc, .slice m.sA m.s.length m.sc, .slice m.hA m.h.length m.hc, .slice m.eA m.e.length m.ec] 26) = W1 := ⟨_, rfl⟩
  have B1 := Lib.hid (show Below w.heap.size w W1 from by rw [← hW1]; exact (Below.refl _ _).alloc (Nat.le_refl _) _)
  have X1 := Lib.hid (show Blk W1 w.heap.size 26 #[.int .u16 m.id, .int .u16 m.bi, .slice m.qA m.q.length m.qc, .slice m.sA m.s.length m.sc, .slice m.hA m.h.length m.hc, .slice m.eA m.e.length m.ec] from by rw [← hW1]; exact Blk.new _ _ _)
  rw [hW1]
  clear hW1
  have hmm := @run_makeMap Try.prog
  gi_upto_region 2 with (fail)
  obtain ⟨bm, hbm⟩ : ∃ bm, W1.heap.size = bm := ⟨_, rfl⟩
  obtain ⟨W2, hW2⟩ : ∃ W2, (W1.alloc (.map #[] 0)).alloc (.cells #[.map (some bm)] 82) = W2 := ⟨_, rfl⟩
  have hb12 : Below W1.heap.size W1 W2 := by rw [← hW2]; exact ((Below.refl _ _).alloc (Nat.le_refl _) _).alloc (by simp) _
  have M2 := Lib.hid (show MapV Try.prog 9 W2 bm 0 (fun _ => none) ∧ Blk W2 (bm + 1) 82 #[.map (some bm)] ∧ W2.heap.size = bm + 2 from by
    rw [← hW2]
    refine ⟨?_, ?_, ?_⟩
    · rw [← hbm]; exact (MapV.made W1 _ _).alloc _
    · have := Blk.new (W1.alloc (.map #[] 0)) 82 #[.map (some bm)]
      rw [World.size_alloc, hbm] at this
      exact this
    · simp [hbm])
  have B2 := Lib.hid (B1.out.trans (hb12.mono B1.out.size))
  have X2 := Lib.hid (X1.out.below hb12 X1.out.lt)
  have HBM := Lib.hid (show w.heap.size < bm from by have := X1.out.lt; omega)
  rw [hbm, hW2]
  clear hW2 hbm hb12 X1 B1 hmm
  have x3 := X2.out.cell 3
  have x4 := X2.out.cell 4
  gi_wp2_with (refine ⟨trivial, ?_⟩; gi_at_call 39; refine (callsIn_wide.2 (staying_any _ _ _ _ _)).mono ?_; rintro e W4 ⟨rfl, hW4⟩)
  clear x3 x4
  rw [← hW4]
  obtain ⟨K, hK⟩ : ∃ K : Nat → Prop, K = fun i => i < w.heap.size ∨ (bm + 2 ≤ i ∧ i < bm + 5) := ⟨_, rfl⟩
  have hs2 := M2.out.2.2
  obtain ⟨HL, hb4, hs4⟩ := lists_made (K := K) z [⟨m.sA, m.s, m.sc⟩, ⟨m.hA, m.h, m.hc⟩] W2 W4 hW4
    (fun l hl => by
      simp only [List.mem_cons, List.not_mem_nil, or_false] at hl
      rcases hl with rfl | rfl
      · exact ⟨HM.out.1.ts.below B2.out, fun hp a ha => by rw [hK]; left; exact HM.out.1.ts.low hp a ha⟩
      · exact ⟨HM.out.1.th.below B2.out, fun hp a ha => by rw [hK]; left; exact HM.out.1.th.low hp a ha⟩)
    (fun l hl => by
      simp only [List.mem_cons, List.not_mem_nil, or_false] at hl
      rcases hl with rfl | rfl
      · exact ⟨HM.out.2.1.ls, HM.out.2.1.ss⟩
      · exact ⟨HM.out.2.1.lh, HM.out.2.1.sh⟩) (by rw [hK]; right; omega) (by rw [hK]; right; omega) (by rw [hK]; right; omega) (by simp) HM.out.2.2
  have hsq := staying1_K z _ _ _ _ _ K W4 HL
  have hfl : flatX [⟨m.sA, m.s, m.sc⟩, ⟨m.hA, m.h, m.hc⟩] = m.s ++ m.h := by simp [flatX]
  rw [hfl] at hsq
  have X4 := Lib.hid (X2.out.below hb4 X2.out.lt)
  have B4 := Lib.hid (B2.out.trans (hb4.mono B2.out.size))
  have M4 := Lib.hid (And.intro (M2.out.1.below hb4 (by omega)) (And.intro (M2.out.2.1.below hb4 (by omega)) (show W4.heap.size = bm + 5 by omega)))
  clear hW4 HL hb4 X2 B2 hs4 hfl
  obtain ⟨b2, hb2⟩ : ∃ b2, W2.heap.size = b2 := ⟨_, rfl⟩
  rw [hb2] at hsq ⊢
  clear hb2 hs2 M2
  obtain ⟨cs, hcs⟩ : ∃ cs : Array Value, cs = #[.int .u16 m.id, .int .u16 m.bi, .slice m.qA m.q.length m.qc, .slice m.sA m.s.length m.sc, .slice m.hA m.h.length m.hc, .slice m.eA m.e.length m.ec] := ⟨_, rfl⟩
  rw [← hcs] at X4
  have HCS := Lib.hid hcs
  clear hcs
  have hs4 := M4.out.2.2
  have hbm := HBM.out
  apply rangeKA (gf := 74) (lb := #[.pointer (some ⟨b2 + 1 + 1, 0, none⟩), .pointer (some ⟨b2 + 1, 0, none⟩)]) rfl (enters_of Try.func74 (by kernel_rfl) rfl)
    hsq (fun i hi => by rw [hK] at hi; omega) (Below.refl _ _) (fun _ => rfl)
    (fun pre V => Below w.heap.size w V ∧ W4.heap.size ≤ V.heap.size ∧ Blk V w.heap.size 26 cs ∧ Blk V (bm + 1) 82 #[.map (some bm)] ∧ ∃ f, MapV Try.prog 9 V bm (hostsL pre).length f ∧ CntF (hostsL pre) f)
    (fun _ _ _ => False)
    ?hI (fun _ _ _ _ h => h.elim) ?h0 (fun x => .cells #[.string x.n, .int .u16 x.t, .int .u16 x.c, .int .u32 x.l, .string x.d] 30)
  case hI =>
    rintro pre A A' ⟨h1, h2, h3, h4, f, h5, h6⟩ ho
    exact ⟨⟨ho.os.trans h1.os, ho.tape.trans h1.tape, ho.output.trans h1.output, Nat.le_trans h1.size ho.size, fun i hi => (ho.block i (by have := h1.size; omega) (.inl (by omega))).trans (h1.block i hi)⟩, Nat.le_trans h2 ho.size,
      (ho.block _ h3.lt (.inl (by omega))).trans h3, (ho.block _ h4.lt (.inl (by omega))).trans h4, f, h5.keep (ho.block _ h5.lt (.inl (by omega))), h6⟩
  case h0 =>
    exact ⟨B4.out, Nat.le_refl _, X4.out, M4.out.2.1, _, M4.out.1, CntF.nil_⟩
  case hassign =>
    intro l x V g K0 hg hK0
    dsimp only [RRec.val]
    gi_wp2
    rw [← hg]
    exact hK0
  case hbody =>
    rintro l pre x gb V hgb hgs hgo ⟨h1, h2, h3, h4, f, h5, h6⟩ hpre
    have hxm : x ∈ leftL z.data.toList (m.s ++ m.h) := hpre.subset (by simp)
    have hxs : x.small := by
      have h := (left_stays hxm).1
      rw [List.mem_append] at h
      rcases h with h | h
      · exact HM.out.2.1.ss x h
      · exact HM.out.2.1.sh x h
    have hlen2 : pre.length + 1 ≤ 40 := by
      have := hpre.length_le
      have h9 := left_len z.data.toList (m.s ++ m.h)
      have := HM.out.2.1.ls
      have := HM.out.2.1.lh
      simp at *
      omega
    obtain ⟨ns, hns⟩ : ∃ ns, namesR x = ns := ⟨_, rfl⟩
    have hnl : ns.length ≤ 2 := by rw [← hns]; exact namesR_len x
    have hnn : ∀ y ∈ ns, isName y = true := by rw [← hns]; exact namesR_names x
    have hpl := hosts_len pre
    have hN := fun W => names_any x.t x.d (by have := hxs.2; omega) W
    have HS := Lib.hid (hosts_snoc pre x)
    obtain ⟨xn, xt, xc, xl, xd⟩ := x
    have hG : Blk V gb 30 #[.string xn, .int .u16 xt, .int .u16 xc, .int .u32 xl, .string xd] := hgo
    have x1 := hG.cell 1
    have x4 := hG.cell 4
    have HI := Lib.hid (And.intro h1 (And.intro h2 (And.intro h3 (And.intro h4 (And.intro h5 h6)))))
    by_cases ht : xt = 2
    case neg =>
      have q1 : (xt == 2) = false := by simp [ht]
      have q2 : (xt != 2) = true := by simp [ht]
      have HS2 := Lib.hid (show hostsL (pre ++ [⟨xn, xt, xc, xl, xd⟩]) = hostsL pre from by rw [HS.out, if_neg ht]; simp)
      clear hpre hxm hxs hlen2 hns hnl hnn hpl hN HS hG hgo h1 h2 h3 h4 h5 h6 hsq hgb hgs
      gi_wp2_with (fail)
      obtain ⟨h1, h2, h3, h4, h5, h6⟩ := HI.out
      refine ⟨KeepS.refl _ _, h1, h2, h3, h4, f, ?_, ?_⟩
      · rw [HS2.out]; exact h5
      · rw [HS2.out]; exact h6
    subst ht
    have hN2 : ∀ W, CallsIn Fence.wide (n - 1 - 1 - 1) Try.prog 41 #[.int .u16 2, .string xd] W (fun e w' => ∃ A c, e = .returned (.slice A ns.length c) ∧ Sl w' 1 (.slice A ns.length c) ns.length (strs ns) ∧ (∀ i, (Value.slice A ns.length c).ownBlock = some i → W.heap.size ≤ i) ∧ Below W.heap.size W w') := fun W => (callsIn_wide (n := n - 1 - 1 - 1)).2 (by have := hN W; rw [← hns]; exact this)
    have HN := Lib.hid hN2
    have HS2 := Lib.hid (show hostsL (pre ++ [⟨xn, 2, xc, xl, xd⟩]) = hostsL pre ++ ns from by rw [HS.out, if_pos rfl, hns])
    have HZ := Lib.hid (And.intro hlen2 (And.intro hnl (And.intro hnn (And.intro hpl (And.intro hgb hgs)))))
    have hnlI : (ns.length : Int) ≤ 2 := by omega
    have q1 : ((2 : Int) != 2) = false := by decide
    clear hpre hxm hxs hlen2 hns hnl hnn hpl hN HS hG hgo h1 h2 h3 h4 h5 h6 hsq hN2 hgb hgs
    have hn3 : 1 ≤ n - 1 - 1 := by omega
    gi_wp2_with (refine ⟨trivial, ?_⟩; gi_at_call 41; refine (CallsIn.inRound l (HN.out _)).mono ?_; rintro e w5 ⟨A, c, rfl, hS5, ho5, hb5⟩)
    have H5 := Lib.hid (And.intro hS5 (And.intro ho5 hb5))
    clear hS5 ho5 hb5 x1 x4
    gi_loopg [29] (ns.length + 1) (fun g2 v29 ws => ∃ k : Nat, v29 = .int .i64 (k : Int) ∧ Aside (g2 + k = ns.length + 1) ∧ k ≤ ns.length ∧
      Aside (Below w.heap.size w ws ∧ W4.heap.size ≤ ws.heap.size ∧ Blk ws w.heap.size 26 cs ∧ Blk ws (bm + 1) 82 #[.map (some bm)] ∧ (∃ f, MapV Try.prog 9 ws bm (hostsL pre ++ ns.take k).length f ∧ CntF (hostsL pre ++ ns.take k) f) ∧
        Sl ws 1 (.slice A ns.length c) ns.length (strs ns) ∧ KeepS (fun i => (W4.heap.size ≤ i ∧ i < W4.heap.size + 2) ∨ K i) V ws))
    case atStart =>
      have h := HI.out
      refine ⟨0, rfl, rfl, by omega, h.1.trans (H5.out.2.2.mono h.1.size), Nat.le_trans h.2.1 H5.out.2.2.size, h.2.2.1.below H5.out.2.2 h.2.2.1.lt, h.2.2.2.1.below H5.out.2.2 h.2.2.2.1.lt, ⟨f, ?_, ?_⟩, H5.out.1, .of_below H5.out.2.2⟩
      · simpa using h.2.2.2.2.1.below H5.out.2.2 h.2.2.2.2.1.lt
      · simpa using h.2.2.2.2.2
    case round =>
      obtain ⟨k, rfl, hg, hkl, hI⟩ := hrel
      by_cases hlt : k < ns.length
      · obtain ⟨y, hy⟩ : ∃ y, ns[k]? = some y := ⟨_, List.getElem?_eq_getElem hlt⟩
        have hltI : (k : Int) < (ns.length : Int) := by omega
        obtain ⟨i1, i2, i3, i4, ⟨f, i5, i6⟩, i7, i8⟩ := hI.out
        obtain ⟨gn, cap, hv, hgn, hc1, hc2, hcell⟩ := i7.form (by omega)
        injection hv with hA _ hcc
        subst hA
        subst hcc
        have d0 : wr.cell? ⟨gn, k, none⟩ = some (.string ⟨y.toArray⟩) := hcell k _ (by unfold strs; rw [List.getElem?_map, hy]; rfl)
        have m0 : wr.cell? ⟨bm + 1, 0, none⟩ = some (.map (some bm)) := i4.cell 0
        have hyn := HZ.out.2.2.1 y (List.mem_of_getElem? hy)
        have hys : (⟨y.toArray⟩ : ByteArray).size ≤ 255 := by
          have := ((isName_iff y).1 hyn).1
          show y.toArray.size ≤ 255
          simpa using this
        have HF := Lib.hid (fun W => CallsIn.inRound l ((callsIn_wide (n := n - 1 - 1 - 1)).2 (Fold_any ⟨y.toArray⟩ (by omega) W)))
        have HK := Lib.hid (take_at hy)
        have HI2 := Lib.hid (And.intro i5 i6)
        clear hcell i1 i2 i3 i4 i5 i6 i7 i8 hyn hy
        gi_wp2_with (fail)
        have m1 : wr.drew.cell? ⟨bm + 1, 0, none⟩ = some (.map (some bm)) := m0
        have hnb : (hostsL pre ++ ns.take k).length ≤ 1000 := by
          have := HZ.out
          simp only [List.length_append, List.length_take]
          omega
        have hkey : keyOf Try.prog 9 (.string ⟨(foldB y).toArray⟩) = some (.string (foldB y)) := WideMaps.keyOf_string_mk Try.underlying9 (by
          show (foldB y).toArray.size ≤ maxLen
          have h1 : y.toArray.size ≤ 255 := hys
          simp only [List.size_toArray, foldB_length] at h1 ⊢
          unfold maxLen
          omega)
        obtain ⟨cn, hcn⟩ : ∃ cn, cntN (hostsL pre ++ ns.take k) (foldB y) = cn := ⟨_, rfl⟩
        have hcl := cnt_le (hostsL pre ++ ns.take k) (foldB y)
        rw [hcn] at hcl
        have hwr : IntKind.i64.wrap ((cn : Int) + 1) = (cn : Int) + 1 := by rw [IntKind.wrap_i64]; omega
        have HV : RowKit.Hid (∀ w6, Below wr.heap.size wr w6 → w6.cell? ⟨bm + 1, 0, none⟩ = some (.map (some bm)) ∧ (Instr.lookup 82 (.map (some bm)) (.string ⟨(foldB y).toArray⟩) false).run Try.prog w6 = .ok (.int .i64 (cn : Int)) w6 ∧
            ∃ w7, (Instr.mapUpdate 82 (.map (some bm)) (.string ⟨(foldB y).toArray⟩) (.int .i64 ((cn : Int) + 1))).run Try.prog w6 = .ok () w7 ∧
              MapV Try.prog 9 w7 bm ((hostsL pre ++ ns.take k).length + 1) (fun x => if x.sameKey (.string (foldB y)) then some (.int .i64 ((cn : Int) + 1)) else f x) ∧ w6.grownBy w7 (some bm)) := Lib.hid (fun w6 hb6 => by
          have M6 := HI2.out.1.below hb6 HI2.out.1.lt
          have hlk := M6.look string_keyed2 Try.underlying82 (zero_int2 _) hkey
          rw [HI2.out.2 (foldB y), hcn] at hlk
          obtain ⟨w7, hst, M7, hg7, _, _⟩ := M6.store string_keyed2 Try.underlying82 (by unfold maxLen; omega) hkey (show WideAt.IsKeyLit (.string _) from trivial) (.int .i64 ((cn : Int) + 1))
          exact ⟨(hb6.cell (p := ⟨bm + 1, 0, none⟩) hI.out.2.2.2.1.lt).trans m0, hlk, w7, hst, M7, hg7⟩)
        have HCN := Lib.hid hcn
        clear hkey hcn hcl
        gi_region_with (refine ⟨trivial, ?_⟩; gi_at_call 42; refine (HF.out _).mono ?_; rintro e w6 ⟨rfl, hb6⟩; have hb6' : Below wr.heap.size wr w6 := ((Below.refl wr.heap.size wr).drew).trans hb6; obtain ⟨m6, hlk, w7, hst, hm7, hg7⟩ := HV.out w6 hb6'; have H7 := Lib.hid (And.intro hb6' (And.intro hm7 hg7)); clear hb6 hb6' hm7 hg7)
        all_goals
          gi_wp2_with (fail)
          gi_roundg (ns.length - k)
          case measure => have := hg.out; omega
          case rel =>
            obtain ⟨hb7, hm7, hg7⟩ := H7.out
            obtain ⟨i1, i2, i3, i4, _, i7, i8⟩ := hI.out
            have hgn2 : V.heap.size ≤ gn := H5.out.2.1 gn rfl
            have hV4 := HI.out.2.1
            have hfin : ∃ f, MapV Try.prog 9 w7 bm (hostsL pre ++ ns.take (k + 1)).length f ∧ CntF (hostsL pre ++ ns.take (k + 1)) f := by
              rw [HK.out, ← List.append_assoc, List.length_append]
              have h := HI2.out.2.step y
              rw [HCN.out] at h
              exact ⟨_, hm7, h⟩
            refine ⟨k + 1, rfl, (by show _ = _; omega), by omega, ?_, ?_, ?_, ?_, hfin, ?_, ?_⟩
            · exact (i1.trans (hb7.mono i1.size)).grown hg7 (by have := i1.size; have := hb7.size; omega) (fun g hg => by injection hg with hg; omega)
            · exact Nat.le_trans i2 (Nat.le_trans hb7.size hg7.size)
            · exact (i3.below hb7 i3.lt).grown hg7 (by simp; omega)
            · exact (i4.below hb7 i4.lt).grown hg7 (by simp)
            · refine (i7.below hb7 i7.lt).keep hg7.size fun g hg => hg7.block g (by have := i7.lt g hg; have := hb7.size; omega) ?_
              have h9 : gn = g := by simpa [Value.ownBlock] using hg
              intro e
              injection e with e
              omega
            · refine i8.trans ((KeepS.of_below hb7).grown hg7 (fun i hi => ?_))
              injection hi with hi
              subst hi
              rintro (h | h)
              · omega
              · rw [hK] at h; omega
      · have hltI : ¬ (k : Int) < (ns.length : Int) := by omega
        have hkf : k = ns.length := by omega
        subst hkf
        clear hlt
        gi_wp2_with (fail)
        obtain ⟨i1, i2, i3, i4, ⟨f, i5, i6⟩, i7, i8⟩ := hI.out
        rw [List.take_length] at i5 i6
        rw [hs4] at i2 i8
        rw [hK] at i8
        refine ⟨i8, i1, i2, i3, i4, f, ?_, ?_⟩
        · rw [HS2.out]; exact i5
        · rw [HS2.out]; exact i6
  case hstop =>
    rintro D c pre V hD _ h _
    exact h.elim
  case hdone =>
    rintro D V hD ⟨h1, h2, h3, h4, f, h5, h6⟩ hKD
    have x5 : V.cell? ⟨w.heap.size, 5, none⟩ = some (.slice m.eA m.e.length m.ec) := by
      have := h3.cell 5
      rw [HCS.out] at this
      exact this
    obtain ⟨hs, hhs⟩ : ∃ hs, hostsL (leftL z.data.toList (m.s ++ m.h)) = hs := ⟨_, rfl⟩
    have hgl : glueL z.data.toList m.s m.h m.e = (leftL z.data.toList m.e).filter (glueB hs) := by rw [← hhs]; rfl
    rw [hhs] at h5 h6
    have HGL := Lib.hid hgl
    have hwV : w.heap.size < V.heap.size := h3.lt
    have HI := Lib.hid (And.intro h1 (And.intro h2 (And.intro h4 (And.intro h5 (And.intro h6 (And.intro hKD hD))))))
    clear h1 h2 h3 h4 h5 h6 hKD hD hgl hhs hsq X4 M4
    gi_upto_region 11 with (fail)
    obtain ⟨bg, hbg⟩ : ∃ bg, V.heap.size = bg := ⟨_, rfl⟩
    obtain ⟨V1, hV1⟩ : ∃ V1, V.alloc (.cells #[.slice none 0 0] 24) = V1 := ⟨_, rfl⟩
    have hbV : Below V.heap.size V V1 := by rw [← hV1]; exact (Below.refl _ _).alloc (Nat.le_refl _) _
    have x5' : V1.cell? ⟨w.heap.size, 5, none⟩ = some (.slice m.eA m.e.length m.ec) := (hbV.cell (p := ⟨w.heap.size, 5, none⟩) hwV).trans x5
    have G1 := Lib.hid (show Blk V1 bg 24 #[.slice none 0 0] ∧ V1.heap.size = bg + 1 from by
      rw [← hV1]
      refine ⟨?_, by simp [hbg]⟩
      rw [← hbg]
      exact Blk.new V _ _)
    have HBV := Lib.hid hbV
    rw [hV1, hbg]
    rw [hbg] at hwV
    clear hbV x5
    gi_wp2_with (refine ⟨trivial, ?_⟩; gi_at_call 39; refine (callsIn_wide.2 (staying_any _ _ _ _ _)).mono ?_; rintro e W8 ⟨rfl, hW8⟩)
    rw [← hW8]
    rename_i KK aKK
    obtain ⟨K2, hK2⟩ : ∃ K2 : Nat → Prop, K2 = fun i => i < w.heap.size ∨ (bg + 1 ≤ i ∧ i < bg + 4) := ⟨_, rfl⟩
    have hg1 := G1.out.2
    have BV1 := Lib.hid (HI.out.1.trans (HBV.out.mono HI.out.1.size))
    obtain ⟨HL2, hb8, hs8⟩ := lists_made (K := K2) z [⟨m.eA, m.e, m.ec⟩] V1 W8 hW8
      (fun l hl => by
        simp only [List.mem_cons, List.not_mem_nil, or_false] at hl
        subst hl
        exact ⟨HM.out.1.te.below BV1.out, fun hp a ha => by rw [hK2]; left; exact HM.out.1.te.low hp a ha⟩)
      (fun l hl => by
        simp only [List.mem_cons, List.not_mem_nil, or_false] at hl
        subst hl
        exact ⟨HM.out.2.1.le, HM.out.2.1.se⟩) (by rw [hK2]; right; omega) (by rw [hK2]; right; omega) (by rw [hK2]; right; omega) (by simp) HM.out.2.2
    have hsq2 := staying1_K z _ _ _ _ _ K2 W8 HL2
    have hfl : flatX [⟨m.eA, m.e, m.ec⟩] = m.e := by simp [flatX]
    rw [hfl] at hsq2
    have HI8 := Lib.hid (show Below w.heap.size w W8 ∧ Blk W8 (bm + 1) 82 #[.map (some bm)] ∧ MapV Try.prog 9 W8 bm hs.length f ∧ W8.heap[D]? = some (.deferred (some [])) ∧ Blk W8 bg 24 #[.slice none 0 0] ∧ W8.heap.size = bg + 4 ∧ bm + 1 < bg ∧ D < bg ∧ bm < bg ∧ w.heap.size ≤ D from by
      obtain ⟨h1, h2, h3, h4, h5, h6, h7⟩ := HI.out
      have l3 := h3.lt
      have l4 := h4.lt
      have l6 := (Array.getElem?_eq_some_iff.1 h6).1
      have hv1 := HBV.out
      exact ⟨BV1.out.trans (hb8.mono BV1.out.size), (h3.below hv1 l3).below hb8 (by omega), (h4.below hv1 l4).below hb8 (by omega), (hb8.block D (by omega)).trans ((hv1.block D l6).trans h6), G1.out.1.below hb8 (by omega), by omega, by omega, by omega, by omega, by omega⟩)
    have HCF := Lib.hid HI.out.2.2.2.2.1
    clear HI hW8 HL2 hb8 hs8 hfl BV1 HBV hV1 x5' G1
    obtain ⟨b3, hb3⟩ : ∃ b3, V1.heap.size = b3 := ⟨_, rfl⟩
    rw [hb3] at hsq2 hg1 ⊢
    clear hb3
    have hs8 := HI8.out.2.2.2.2.2.1
    obtain ⟨e1, e2, e3, e4⟩ := HI8.out.2.2.2.2.2.2
    have HCL := Lib.hid (And.intro hs8 (And.intro e1 (And.intro e2 (And.intro e3 e4))))
    apply rangeKA (gf := 74) (lb := #[.pointer (some ⟨b3 + 1 + 1, 0, none⟩), .pointer (some ⟨b3 + 1, 0, none⟩)]) rfl (enters_of Try.func74 (by kernel_rfl) rfl)
      hsq2 (fun i hi => by rw [hK2] at hi; omega) (Below.refl _ _) (fun _ => rfl)
      (fun pre U => Below w.heap.size w U ∧ W8.heap.size ≤ U.heap.size ∧ Blk U (bm + 1) 82 #[.map (some bm)] ∧ MapV Try.prog 9 U bm hs.length f ∧ U.heap[D]? = some (.deferred (some [])) ∧
        ∃ v, Blk U bg 24 #[v] ∧ Sl U 5 v (pre.filter (glueB hs)).length (flatV RRec.vs (pre.filter (glueB hs))) ∧ ∀ g, v.ownBlock = some g → W8.heap.size + 2 ≤ g)
      (fun _ _ _ => False)
      ?hI2 (fun _ _ _ _ h => h.elim) ?h02 (fun x => .cells #[.string x.n, .int .u16 x.t, .int .u16 x.c, .int .u32 x.l, .string x.d] 30)
    case hI2 =>
      rintro pre A A' ⟨h1, h2, h3, h4, h5, v, h6, h7, h8⟩ ho
      exact ⟨⟨ho.os.trans h1.os, ho.tape.trans h1.tape, ho.output.trans h1.output, Nat.le_trans h1.size ho.size, fun i hi => (ho.block i (by have := h1.size; omega) (.inl (by omega))).trans (h1.block i hi)⟩, Nat.le_trans h2 ho.size,
        (ho.block _ h3.lt (.inl (by omega))).trans h3, h4.keep (ho.block _ h4.lt (.inl (by omega))), (ho.block _ (by omega) (.inl (by omega))).trans h5, v, (ho.block _ h6.lt (.inl (by omega))).trans h6, h7.keep ho.size fun g hg => ho.block g (h7.lt g hg) (.inr (h8 g hg)), h8⟩
    case h02 =>
      obtain ⟨h1, h3, h4, h5, h6, _⟩ := HI8.out
      exact ⟨h1, Nat.le_refl _, h3, h4, h5, _, h6, Sl.nil _ _, fun g hg => by simp [Value.ownBlock] at hg⟩
    case hassign =>
      intro l x V g K0 hg hK0
      dsimp only [RRec.val]
      gi_wp2
      rw [← hg]
      exact hK0
    case hstop =>
      rintro D c pre V hD _ h _
      exact h.elim
    case hdone =>
      rintro D2 U hD2 ⟨h1, h2, h3, h4, h5, v, h6, h7, h8⟩ hKD2
      obtain ⟨A, cc, rfl, hc1, hc2⟩ := h7.shape
      have c0 : U.cell? ⟨bg, 0, none⟩ = some (.slice A ((leftL z.data.toList m.e).filter (glueB hs)).length cc) := h6.cell 0
      have H := Lib.hid (And.intro h1 (And.intro h2 (And.intro h5 (And.intro h7 (And.intro h8 hKD2)))))
      clear h1 h2 h3 h4 h5 h6 h7 h8 hKD2 hsq2 hc1 hc2
      refine aKK _ _ ?_
      clear aKK
      gi_wp2_with (fail)
      obtain ⟨h1, h2, h5, h7, h8, hKD2⟩ := H.out
      obtain ⟨q1, q2, q3, q4, hw3⟩ := HCL.out
      have l1 := h1.size
      have hK5 : (U.putObj D2 (.deferred none)).heap[D]? = some (.deferred (some [])) := (World.putObj_heap_other (by omega)).trans h5
      have HKB : Below w.heap.size w ((U.putObj D2 (.deferred none)).putObj D (.deferred none)) :=
        (h1.trans (belowK_b (w := w) (Nat.le_refl _) U D2 _ _ (by omega) hKD2 rfl rfl)).trans (belowK_b (w := w) (Nat.le_refl _) _ D _ _ hw3 hK5 rfl rfl)
      have hsl : Sl ((U.putObj D2 (.deferred none)).putObj D (.deferred none)) 5 (.slice A ((leftL z.data.toList m.e).filter (glueB hs)).length cc) ((leftL z.data.toList m.e).filter (glueB hs)).length (flatV RRec.vs ((leftL z.data.toList m.e).filter (glueB hs))) :=
        (h7.keep (by simp) fun g hg => World.putObj_heap_other (by have := h8 g hg; omega)).keep (by simp) fun g hg => World.putObj_heap_other (by have := h8 g hg; omega)
      rw [← HGL.out] at hsl h8 ⊢
      exact ⟨by simp, .inl ⟨_, _, rfl, run_takeDeferred hKD2, by simp, .inl ⟨_, _, rfl, run_takeDeferred hK5, _, results_tmp (t := 4) rfl _ _ _, A, cc, rfl, hsl, fun g hg => by have := h8 g hg; omega, HKB⟩⟩⟩
    case hbody =>
      rintro l pre x gb U hgb hgs hgo ⟨h1, h2, h3, h4, h5, v, h6, h7, h8⟩ hpre
      have hxm : x ∈ leftL z.data.toList m.e := hpre.subset (by simp)
      have hxs : x.small := HM.out.2.1.se x (left_stays hxm).1
      have hlen2 : (pre.filter (glueB hs)).length + 1 ≤ 40 := by
        have := hpre.length_le
        have h9 := left_len z.data.toList m.e
        have := HM.out.2.1.le
        have := List.length_filter_le (glueB hs) pre
        simp only [List.length_append, List.length_cons, List.length_nil] at *
        omega
      have hstep : (pre ++ [x]).filter (glueB hs) = pre.filter (glueB hs) ++ (if glueB hs x = true then [x] else []) := by
        rw [List.filter_append]; simp [List.filter_cons]
      obtain ⟨ps, hps⟩ : ∃ ps, pre.filter (glueB hs) = ps := ⟨_, rfl⟩
      rw [hps] at hstep hlen2 h7
      obtain ⟨A, cc, rfl, hc1, hc2⟩ := h7.shape
      have hgl2 : glueB hs x = (isAddr x && decide (0 < cntN hs (foldB x.nb))) := by rw [cnt_any]; rfl
      obtain ⟨xn, xt, xc, xl, xd⟩ := x
      have hG : Blk U gb 30 #[.string xn, .int .u16 xt, .int .u16 xc, .int .u32 xl, .string xd] := hgo
      have x1 := hG.cell 1
      have HI := Lib.hid (And.intro h1 (And.intro h2 (And.intro h3 (And.intro h4 (And.intro h5 (And.intro h6 (And.intro h7 h8)))))))
      have HS := Lib.hid (And.intro hps (And.intro hstep (And.intro hlen2 (And.intro hgs (And.intro hgb hG)))))
      by_cases ha : xt = 1 ∨ xt = 28
      case neg =>
        have q1 : (xt != 1) = true := by simp; omega
        have q2 : (xt != 28) = true := by simp; omega
        have q3 : (xt == 1) = false := by simp; omega
        have q4 : (xt == 28) = false := by simp; omega
        have HN := Lib.hid (show glueB hs ⟨xn, xt, xc, xl, xd⟩ = false from by rw [hgl2]; simp [isAddr]; omega)
        clear hpre hxm hxs hlen2 hps hgl2 hG hgo h1 h2 h3 h4 h5 h6 h7 h8 hsq2 hgb hgs hstep ha hc1 hc2
        gi_wp2_with (fail)
        obtain ⟨h1, h2, h3, h4, h5, h6, h7, h8⟩ := HI.out
        refine ⟨KeepS.refl _ _, h1, h2, h3, h4, h5, _, h6, ?_, h8⟩
        rw [HS.out.2.1, HN.out, if_neg (by simp), List.append_nil]
        exact h7
      have hN := Lib.hid (show glueB hs ⟨xn, xt, xc, xl, xd⟩ = decide (0 < cntN hs (foldB xn.data.toList)) from by
        rw [hgl2]
        rcases ha with rfl | rfl <;> simp [isAddr])
      have hns : xn.size ≤ 1000 := hxs.1
      have HF := Lib.hid (fun W => CallsIn.inRound l ((callsIn_wide (n := n - 1 - 1 - 1)).2 (Fold_any xn (by omega) W)))
      have hkey : keyOf Try.prog 9 (.string ⟨(foldB xn.data.toList).toArray⟩) = some (.string (foldB xn.data.toList)) := WideMaps.keyOf_string_mk Try.underlying9 (by
        show (foldB xn.data.toList).toArray.size ≤ maxLen
        have h1 : xn.data.toList.length ≤ 1000 := by simpa using hns
        simp only [List.size_toArray, foldB_length] at h1 ⊢
        unfold maxLen
        omega)
      obtain ⟨cn, hcn⟩ : ∃ cn, cntN hs (foldB xn.data.toList) = cn := ⟨_, rfl⟩
      have x0 := hG.cell 0
      have m0 : U.cell? ⟨bm + 1, 0, none⟩ = some (.map (some bm)) := h3.cell 0
      have m1 : U.drew.cell? ⟨bm + 1, 0, none⟩ = some (.map (some bm)) := m0
      have hbU : bm + 1 < U.heap.size := h3.lt
      have hgU : gb < U.heap.size := hG.lt
      have HV : RowKit.Hid (∀ w6, Below U.heap.size U w6 → w6.cell? ⟨bm + 1, 0, none⟩ = some (.map (some bm)) ∧ w6.cell? ⟨gb, 0, none⟩ = some (.string xn) ∧ (Instr.lookup 82 (.map (some bm)) (.string ⟨(foldB xn.data.toList).toArray⟩) false).run Try.prog w6 = .ok (.int .i64 (cn : Int)) w6) := Lib.hid (fun w6 hb6 => by
        have M6 := h4.below hb6 h4.lt
        have hlk := M6.look string_keyed2 Try.underlying82 (zero_int2 _) hkey
        rw [HCF.out (foldB xn.data.toList), hcn] at hlk
        exact ⟨(hb6.cell (p := ⟨bm + 1, 0, none⟩) hbU).trans m0, (hb6.cell (p := ⟨gb, 0, none⟩) hgU).trans x0, hlk⟩)
      rw [hcn] at hN
      have HU := Lib.hid (And.intro hc1 (And.intro hc2 hxs))
      clear hpre hxm hxs hlen2 hps hgl2 hG hgo h1 h2 h3 h4 h5 h6 h7 h8 hsq2 hgb hgs hstep hc1 hc2 hkey hcn hns hbU hgU
      have hgo2 : gb < U.heap.size := HS.out.2.2.2.2.2.lt
      have hcases : xt = 1 ∨ xt = 28 := ha
      have hn3 : 1 ≤ n - 1 - 1 := by omega
      clear ha
      rcases Nat.eq_zero_or_pos cn with rfl | hpos
      · have HN := Lib.hid (show glueB hs ⟨xn, xt, xc, xl, xd⟩ = false from by rw [hN.out]; simp)
        clear hN
        rcases hcases with rfl | rfl
        all_goals
          gi_wp2_with (fail)
          gi_region_with (refine ⟨trivial, ?_⟩; gi_at_call 42; refine (HF.out _).mono ?_; rintro e w6 ⟨rfl, hb6⟩; have hb6' : Below U.heap.size U w6 := ((Below.refl U.heap.size U).drew).trans hb6; obtain ⟨m6, n6, hlk⟩ := HV.out w6 hb6'; have H7 := Lib.hid hb6'; clear hb6 hb6')
          all_goals
            gi_wp2_with (fail)
            obtain ⟨h1, h2, h3, h4, h5, h6, h7, h8⟩ := HI.out
            have hb := H7.out
            refine ⟨KeepS.of_below hb, h1.trans (hb.mono h1.size), Nat.le_trans h2 hb.size, h3.below hb h3.lt, h4.below hb h4.lt, (hb.block D (Array.getElem?_eq_some_iff.1 h5).1).trans h5, _, h6.below hb h6.lt, ?_, h8⟩
            rw [HS.out.2.1, HN.out, if_neg (by simp), List.append_nil]
            exact h7.below hb h7.lt
      · have HN := Lib.hid (show glueB hs ⟨xn, xt, xc, xl, xd⟩ = true from by rw [hN.out]; simp [hpos])
        have hposI : (0 : Int) < (cn : Int) := by omega
        clear hN hpos
        rcases hcases with rfl | rfl
        all_goals
          gi_wp2_with (fail)
          gi_region_with (refine ⟨trivial, ?_⟩; gi_at_call 42; refine (HF.out _).mono ?_; rintro e w6 ⟨rfl, hb6⟩; have hb6' : Below U.heap.size U w6 := ((Below.refl U.heap.size U).drew).trans hb6; obtain ⟨m6, n6, hlk⟩ := HV.out w6 hb6'; have H7 := Lib.hid hb6'; clear hb6 hb6')
          all_goals
            have hG6 := (HS.out.2.2.2.2.2).below H7.out hgo2
            have hB6 := (HI.out.2.2.2.2.2.1).below H7.out HI.out.2.2.2.2.2.1.lt
            have c0 : w6.cell? ⟨bg, 0, none⟩ = some (.slice A ps.length cc) := hB6.cell 0
            have f0 := hB6.frozen 0
            have y1 := hG6.cell 1
            have y2 := hG6.cell 2
            have y3 := hG6.cell 3
            have y4 := hG6.cell 4
            have HSL := Lib.hid (fun ty : Int => (HI.out.2.2.2.2.2.2.1.below H7.out HI.out.2.2.2.2.2.2.1.lt).alloc (.cells #[.string xn, .int .u16 ty, .int .u16 xc, .int .u32 xl, .string xd] 30))
            have HSR := Lib.hid (fun ty : Int => src_rr (P := Try.prog) Try.underlying24 w6 30 xn xd ty xc xl)
            have HB6 := Lib.hid hB6
            have hl40 := HS.out.2.2.1
            clear hG6 hB6
            gi_wp2_with (gi_at_builtin; go_must (refine wpListIn_append_sl _ rfl (.tmp 59) (.tmp 61) 24 24 rfl 30 i0 (.agg #[.string ⟨#[]⟩, .int .u16 0, .int .u16 0, .int .u32 0, .string ⟨#[]⟩]) 5 40 Try.underlying24 hi0 hz0 hz1 hz2 rfl (.slice A ps.length cc) ps.length (flatV RRec.vs ps) rfl (HSL.out _) _ rfl 1 (flatV RRec.vs [⟨xn, _, xc, xl, xd⟩]) (HSR.out _) (by unfold maxLen; omega) (by omega) ?_); intro v3 w9 hs3 hg3 hv3; obtain ⟨A3, c3, rfl, hc3, hm3⟩ := hs3.shape; have k1 : Blk w9 bg 24 #[.slice A ps.length cc] := (HB6.out.alloc _).grown hg3 (fun e => by have := HI.out.2.2.2.2.2.2.2 _ e.symm; have := HCL.out.1; omega); have g0 := k1.cell 0; have p0 := k1.frozen 0; have H3 := Lib.hid (And.intro hs3 (And.intro hg3 (And.intro hv3 k1))); clear hs3 hg3 hv3 k1 hc3 hm3)
            obtain ⟨h1, h2, h3, h4, h5, h6, h7, h8⟩ := HI.out
            obtain ⟨hs3, hg3, hv3, k1⟩ := H3.out
            have hb := H7.out
            obtain ⟨q1, q2, q3, q4, q5⟩ := HCL.out
            have hrow : ∀ i, (Value.slice A ps.length cc).ownBlock = some i → W8.heap.size + 2 ≤ i := h8
            have hown := own_from h8 (by have a1 := HS.out.2.2.2.2.1; have a2 := hb.size; simp; omega) hv3
            have hD5 : w9.heap[D]? = some (.deferred (some [])) := by
              have a1 : w6.heap[D]? = some (.deferred (some [])) := (hb.block D (Array.getElem?_eq_some_iff.1 h5).1).trans h5
              have l1 := (Array.getElem?_eq_some_iff.1 a1).1
              exact (hg3.block D (by simp; omega) (fun e => by have := hrow D e.symm; omega)).trans ((Below.heap_alloc w6 _ D l1).trans a1)
            have hz1 := hb.size
            have hz2 := h1.size
            have hz3 := hg3.size
            simp only [World.size_alloc] at hz3
            have hbg2 : ∀ g, (Value.slice A3 (ps.length + 1) c3).ownBlock = some g → g ≠ bg := fun g hg => by have := hown g hg; omega
            refine ⟨?_, ?_, ?_, ?_, ?_, ?_, _, k1.set_ 0 _, ?_, hown⟩
            · refine (((KeepS.of_below hb).alloc _).grown hg3 ?_).trans (.cell _ ?_)
              · intro i hi
                have h9 := hrow i hi
                rw [hK2]
                rintro (h | h)
                · omega
                · omega
              · rw [hK2]
                rintro (h | h)
                · have h9 : W8.heap.size ≤ bg ∧ bg < W8.heap.size + 2 := h
                  omega
                · have h9 : bg < w.heap.size ∨ (bg + 1 ≤ bg ∧ bg < bg + 4) := h
                  omega
            · exact (((h1.trans (hb.mono h1.size)).alloc (by omega) _).grown hg3 (by simp; omega) (fun g hg => by have := hrow g hg; omega)).setCell (p := ⟨bg, 0, none⟩) (by show w.heap.size ≤ bg; omega) _
            · have : (w9.setCell ⟨bg, 0, none⟩ (Value.slice A3 (ps.length + 1) c3)).heap.size = w9.heap.size := by simp [World.setCell]
              omega
            · exact (((h3.below hb h3.lt).alloc _).grown hg3 (fun e => by have := hrow _ e.symm; omega)).far (p := ⟨bg, 0, none⟩) (by show bm + 1 ≠ bg; omega) _
            · exact (((h4.below hb h4.lt).alloc _).grown hg3 (fun e => by have := hrow _ e.symm; omega)).far (p := ⟨bg, 0, none⟩) (by show bm ≠ bg; omega) _
            · exact (Below.heap_setCell _ _ _ _ (by show D ≠ bg; omega)).trans hD5
            · rw [HS.out.2.1, HN.out, if_pos rfl, List.length_append, flatV_append]
              exact hs3.far (p := ⟨bg, 0, none⟩) hbg2 _
end Go.Proofs.Ythjkdpphbipgfaa
