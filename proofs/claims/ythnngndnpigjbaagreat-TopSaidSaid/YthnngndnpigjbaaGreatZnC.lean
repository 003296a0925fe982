/- The walks of zone.Check and zone.Get. Conditions: none. The walks of cuts. Conditions: none. The walks of zone.Cuts and zone.Cut. Conditions: none. -/
import Derived.Test.YthnngndnpigjbaaGreatZnE
import Derived.Test.YthnngndnpigjbaaGreatFindS
import Derived.Test.YthnngndnpigjbaaGreatIxSymG
import Derived.Test.YthnngndnpigjbaaGreatSortM
import Derived.Test.YthnngndnpigjbaaGreatStableN
namespace Go.Proofs.YthnngndnpigjbaaGreat
open Go.RowKit Go.Lib Go.Maps
attribute [local go_sem] Oper.semAt_some

/-- A small zone, as its records lie. -/
structure ZonS (z : ByteArray) (A : Option Addr) (xs : List RRec) (w : World) : Prop where
  hz : z.size ≤ 1000
  len : xs.length ≤ 60
  ok : ∀ r ∈ xs, (r.n.size ≤ 1000 ∧ r.d.size ≤ 5000) ∧ r.ok
  tab : RTab w A xs
theorem ZonS.low {z : ByteArray} {A : Option Addr} {xs : List RRec} {w w' : World} (h : ZonS z A xs w) (hb : Below w.heap.size w w') : ZonS z A xs w' := ⟨h.hz, h.len, h.ok, h.tab.below hb⟩
def zCode (z : Bs) (xs : List RRec) : Int := if zoneB z xs = true then 0 else 2
theorem zCode_yes {z : Bs} {xs : List RRec} (h : zoneB z xs = true) : zCode z xs = 0 := by unfold zCode; rw [if_pos h]
theorem zCode_no {z : Bs} {xs : List RRec} (h : zoneB z xs = false) : zCode z xs = 2 := by unfold zCode; rw [h]; rfl
set_option maxRecDepth 100000 in
set_option maxHeartbeats 1000000 in
theorem zCheck_any (z : ByteArray) (A : Option Addr) (c : Nat) (xs : List RRec) (w : World) (h : ZonS z A xs w) :
    Calls Tryz.prog 6 #[.agg #[.string z, .slice A xs.length c]] w fun e w' => e = .returned (.int .i64 (zCode z.data.toList xs)) ∧ Below w.heap.size w w' := by
  obtain ⟨k, hk⟩ : ∃ k, zCode z.data.toList xs = k := ⟨_, rfl⟩
  rw [hk]
  have HH := Lib.hid h
  have HK := Lib.hid hk
  clear h hk
  go_enter Tryz.func6, Tryz.ntmps6
  go_wp2_with (fail)
  obtain ⟨W, hW⟩ : ∃ W, w.alloc (.cells #[.string z, .slice A xs.length c] 24) = W := ⟨_, rfl⟩
  have hb : Below w.heap.size w W := by rw [← hW]; exact (Below.refl _ _).alloc (Nat.le_refl _) _
  rw [hW]
  have hS := HH.out.low hb
  have HB := Lib.hid hb
  clear hW hb
  refine (see_any z A c xs hS.hz hS.len hS.ok W hS.tab).mono ?_
  rintro e w1 ⟨⟨sb, nb, rfl⟩, hb1⟩
  have HB1 := Lib.hid (HB.out.trans (hb1.mono HB.out.size))
  clear hb1 hS
  cases hzb : zoneB z.data.toList xs with
  | true =>
    have hk : k = 0 := by rw [← HK.out, zCode_yes hzb]
    have HZ := Lib.hid hk
    clear hzb hk
    go_wp2_with (fail)
    go_ret
    exact ⟨by rw [HZ.out]; rfl, HB1.out.alloc HB1.out.size _⟩
  | false =>
    have hk : k = 2 := by rw [← HK.out, zCode_no hzb]
    have HZ := Lib.hid hk
    clear hzb hk
    go_wp2_with (fail)
    go_ret
    exact ⟨by rw [HZ.out]; rfl, HB1.out.alloc HB1.out.size _⟩

/-- The set that was found is laid into the result's box. -/
theorem found_store {n : ByteArray} {t : Int} {L : List RRec} {w W1 w2 : World} {e : Ending} (h : FoundP n t L W1 e w2) (hb : Below w.heap.size w W1) {b : Nat} (hwb : w.heap.size ≤ b) (hr : Blk W1 b 36 #[.string ⟨#[]⟩, .int .u16 0, .int .u32 0, .slice none 0 0]) :
    ∃ (lm : Int) (Ad : Option Addr) (ln cd : Nat), e = .returned (.tuple #[.agg #[.string n, .int .u16 t, .int .u32 lm, .slice Ad ln cd], .int .i64 0]) ∧ Blk w2 b 36 #[.string ⟨#[]⟩, .int .u16 0, .int .u32 0, .slice none 0 0] ∧
      Blk ((((w2.setCell ⟨b, 0, none⟩ (.string n)).setCell ⟨b, 1, none⟩ (.int .u16 t)).setCell ⟨b, 2, none⟩ (.int .u32 lm)).setCell ⟨b, 3, none⟩ (.slice Ad ln cd)) b 36 #[.string n, .int .u16 t, .int .u32 lm, .slice Ad ln cd] ∧
      FoundP n t L w (.returned (.tuple #[.agg #[.string n, .int .u16 t, .int .u32 lm, .slice Ad ln cd], .int .i64 0])) ((((w2.setCell ⟨b, 0, none⟩ (.string n)).setCell ⟨b, 1, none⟩ (.int .u16 t)).setCell ⟨b, 2, none⟩ (.int .u32 lm)).setCell ⟨b, 3, none⟩ (.slice Ad ln cd)) := by
  obtain ⟨P, ds, Ad, cd, h1, h2, h3, rfl, h5, h6, h7⟩ := h
  have hlb := hr.lt
  have hr2 := hr.below h7 hlb
  refine ⟨minL L, Ad, ds.length, cd, rfl, hr2, ?_, P, ds, Ad, cd, h1, h2, h3, rfl, ?_, fun g hg => Nat.le_trans hb.size (h6 g hg), ?_⟩
  · have h9 := (((hr2.set_ 0 (.string n)).set_ 1 (.int .u16 t)).set_ 2 (.int .u32 (minL L))).set_ 3 (.slice Ad ds.length cd)
    simpa using h9
  · refine h5.keep (by simp [World.setCell]) fun g hg => ?_
    have hgb : g ≠ b := by have := h6 g hg; omega
    rw [Below.heap_setCell _ _ _ _ (show g ≠ b from hgb), Below.heap_setCell _ _ _ _ (show g ≠ b from hgb), Below.heap_setCell _ _ _ _ (show g ≠ b from hgb), Below.heap_setCell _ _ _ _ (show g ≠ b from hgb)]
  · exact ((((hb.trans (h7.mono hb.size)).setCell (p := ⟨b, 0, none⟩) hwb _).setCell (p := ⟨b, 1, none⟩) hwb _).setCell (p := ⟨b, 2, none⟩) hwb _).setCell (p := ⟨b, 3, none⟩) hwb _
theorem findP_found {n : ByteArray} {t : Int} {L : List RRec} {w : World} {e : Ending} {w' : World} (h : FindP n t L w e w') (hn : isName n.data.toList = true) (hne : rightL (L.filter (nearR t n)) ≠ []) : FoundP n t (rightL (L.filter (nearR t n))) w e w' := by
  have hk : chkN n.data.toList = 0 := by unfold chkN; rw [if_pos hn]
  rcases h with ⟨h, _⟩ | ⟨_, h, _⟩ | ⟨_, _, h⟩
  · exact absurd hk h
  · exact absurd h hne
  · exact h
set_option maxRecDepth 100000 in
set_option maxHeartbeats 1000000 in
theorem zGet_any (z : ByteArray) (A : Option Addr) (c : Nat) (xs : List RRec) (n : ByteArray) (t : Int) (w : World) (h : ZonS z A xs w) (hn : n.size ≤ 1000) (hzb : zoneB z.data.toList xs = true) (hnm : isName n.data.toList = true) (hne : rightL (xs.filter (nearR t n)) ≠ []) :
    Calls Tryz.prog 7 #[.agg #[.string z, .slice A xs.length c], .string n, .int .u16 t] w (FoundP n t (rightL (xs.filter (nearR t n))) w) := by
  have HH := Lib.hid (And.intro h (And.intro hn (And.intro hnm hne)))
  clear h hn hnm hne
  go_enter Tryz.func7, Tryz.ntmps7
  go_wp2_with (fail)
  obtain ⟨W, hW⟩ : ∃ W, (w.alloc (.cells #[.string z, .slice A xs.length c] 24)).alloc (.cells #[.string ⟨#[]⟩, .int .u16 0, .int .u32 0, .slice none 0 0] 36) = W := ⟨_, rfl⟩
  have hb : Below w.heap.size w W := by rw [← hW]; exact ((Below.refl _ _).alloc (Nat.le_refl _) _).alloc (by simp) _
  have hr : Blk W (w.heap.size + 1) 36 #[.string ⟨#[]⟩, .int .u16 0, .int .u32 0, .slice none 0 0] := by
    have := Blk.new (w.alloc (.cells #[.string z, .slice A xs.length c] 24)) 36 #[.string ⟨#[]⟩, .int .u16 0, .int .u32 0, .slice none 0 0]
    rw [World.size_alloc] at this
    rw [← hW]; exact this
  rw [hW]
  have hS := HH.out.1.low hb
  have HB := Lib.hid (And.intro hb hr)
  clear hW hb hr
  refine (see_any z A c xs hS.hz hS.len hS.ok W hS.tab).mono ?_
  rintro e w1 ⟨⟨sb, nb, rfl⟩, hb1⟩
  rw [hzb]
  obtain ⟨W1, hW1⟩ : ∃ W1, w1.alloc (.cells #[.string z, .slice A xs.length c, .map (some sb), .map (some nb)] 59) = W1 := ⟨_, rfl⟩
  have hbW1 : Below w.heap.size w W1 := by rw [← hW1]; exact (HB.out.1.trans (hb1.mono HB.out.1.size)).alloc (Nat.le_trans HB.out.1.size hb1.size) _
  have hr1 : Blk W1 (w.heap.size + 1) 36 #[.string ⟨#[]⟩, .int .u16 0, .int .u32 0, .slice none 0 0] := by rw [← hW1]; exact (HB.out.2.below hb1 HB.out.2.lt).alloc _
  have c1 : W1.cell? ⟨w1.heap.size, 1, none⟩ = some (.slice A xs.length c) := by
    have : Blk W1 w1.heap.size 59 #[.string z, .slice A xs.length c, .map (some sb), .map (some nb)] := by rw [← hW1]; exact Blk.new _ _ _
    exact this.cell 1
  have HB1 := Lib.hid (And.intro hbW1 hr1)
  have HFD := Lib.hid (findS_any stable_all n t A c xs W1 (HH.out.1.low hbW1).tab (by have := HH.out.1.len; omega) (by have := HH.out.1.len; omega) (by have := HH.out.2.1; omega) (fun r hr => ⟨by have := (HH.out.1.ok r hr).1.1; omega, by have := (HH.out.1.ok r hr).1.2; omega, (HH.out.1.ok r hr).2.2.2.2⟩))
  clear hbW1 hr1 hS hb1 hzb
  go_wp2_with (fail)
  with_reducible refine HFD.out.mono ?_
  intro e w2 hf
  obtain ⟨lm, Ad, ln, cd, rfl, hr2, hs3, hf3⟩ := found_store (findP_found hf HH.out.2.2.1 HH.out.2.2.2) HB1.out.1 (b := w.heap.size + 1) (by omega) HB1.out.2
  have r0 := hr2.cell 0
  have r1 := hr2.cell 1
  have r2 := hr2.cell 2
  have r3 := hr2.cell 3
  have g0 := hr2.frozen 0
  have g1 := hr2.frozen 1
  have g2 := hr2.frozen 2
  have g3 := hr2.frozen 3
  have HF3 := Lib.hid (And.intro hs3 hf3)
  clear hr2 hs3 hf3 hf c1 hW1
  go_wp2_with (fail)
  have d0 := HF3.out.1.cell 0
  have d1 := HF3.out.1.cell 1
  have d2 := HF3.out.1.cell 2
  have d3 := HF3.out.1.cell 3
  exact bodyPost_ret (v := .tuple #[.agg #[.string n, .int .u16 t, .int .u32 lm, .slice Ad ln cd], .int .i64 0]) (by simp [results, Tryz.results7, go_sem, d0, d1, d2, d3]) rfl HF3.out.2
end Go.Proofs.YthnngndnpigjbaaGreat

namespace Go.Proofs.YthnngndnpigjbaaGreat
open Go.RowKit Go.Lib Go.Maps
attribute [local go_sem] Oper.semAt_some

/-- A record of a cut. -/
def zcF (z : Bs) (r : RRec) : Bool := decide (r.t = 2) && !sameB r.nb z
/-- The cuts' names, as they stand. -/
def cutsR (z : Bs) (xs : List RRec) : List ByteArray := (xs.filter (zcF z)).map RRec.n
theorem cutsR_snoc (z : Bs) (xs : List RRec) {k : Nat} {x : RRec} (hx : xs[k]? = some x) : cutsR z (xs.take (k + 1)) = cutsR z (xs.take k) ++ (if zcF z x = true then [x.n] else []) := by
  unfold cutsR
  rw [List.take_add_one, hx, List.filter_append, List.map_append]
  by_cases h : zcF z x = true
  · simp [h]
  · simp [h]
set_option maxRecDepth 100000 in
set_option maxHeartbeats 4000000 in
theorem zcuts_any (vb sb nb : Nat) (z : ByteArray) (A : Option Addr) (c : Nat) (xs : List RRec) (w : World) (h : ZonS z A xs w) (hv : Blk w vb 59 #[.string z, .slice A xs.length c, .map (some sb), .map (some nb)]) :
    Calls Tryz.prog 27 #[.pointer (some ⟨vb, 0, none⟩)] w (CollPost (sortN ((cutsR z.data.toList xs).map fun x => x.data.toList)) w) := by
  obtain ⟨i0, hi0, hz0, hz1, hz2⟩ := info_parts info_str
  have HH := Lib.hid (And.intro h hv)
  have v1 : w.cell? ⟨vb, 1, none⟩ = some (.slice A xs.length c) := hv.cell 1
  clear h hv
  go_enter Tryz.func27, Tryz.ntmps27
  go_wp2_with (fail)
  go_loopg [3, 12] xs.length (fun gg v3 v12 wr => ∃ (k : Nat) (Al : Option Addr) (cl : Nat) (M : List ByteArray), v12 = .int .i64 (k : Int) ∧ v3 = .slice Al M.length cl ∧ Aside (gg + k = xs.length) ∧ Aside (M = cutsR z.data.toList (xs.take k)) ∧ Aside (Below w.heap.size w wr) ∧ Aside (Sl wr 1 (.slice Al M.length cl) M.length (M.map Value.string)) ∧ Aside (∀ g, (Value.slice Al M.length cl).ownBlock = some g → w.heap.size ≤ g))
  case atStart => exact ⟨0, none, 0, [], rfl, rfl, (by show _ = _; omega), (by show _ = _; rfl), Below.refl _ _, Sl.nil _ _, fun g hg => by simp [Value.ownBlock] at hg⟩
  case round =>
    obtain ⟨k, Al, cl, M, rfl, rfl, hg, hM, hb, hs, ho⟩ := hrel
    have hMl : M.length ≤ 60 := by
      have h1 : (cutsR z.data.toList (xs.take k)).length ≤ (xs.take k).length := by unfold cutsR; rw [List.length_map]; exact List.length_filter_le _ _
      rw [← hM.out, List.length_take] at h1
      have := HH.out.1.len
      omega
    by_cases hlt : k < xs.length
    · have hltI : (k : Int) < (xs.length : Int) := by omega
      obtain ⟨x, hx⟩ : ∃ x, xs[k]? = some x := ⟨_, List.getElem?_eq_getElem hlt⟩
      have hTr := HH.out.1.tab.below hb.out
      obtain ⟨b', off', hA', hbl, d0, d1, d2, d3, d4⟩ := hTr.cells hx
      have hrd := HH.out.1.ok x (List.mem_of_getElem? hx)
      obtain ⟨W, hW⟩ : ∃ W, wr.alloc (.cells #[.string x.n, .int .u16 x.t, .int .u16 x.c, .int .u32 x.l, .string x.d] 33) = W := ⟨_, rfl⟩
      have hbW : Below w.heap.size w W := by rw [← hW]; exact hb.out.alloc hb.out.size _
      have hRR : Blk W wr.heap.size 33 #[.string x.n, .int .u16 x.t, .int .u16 x.c, .int .u32 x.l, .string x.d] := by rw [← hW]; exact Blk.new _ _ _
      have hsW : Sl W 1 (.slice Al M.length cl) M.length (M.map Value.string) := by rw [← hW]; exact hs.out.alloc _
      have hvW := HH.out.2.below hbW HH.out.2.lt
      have HX := Lib.hid (And.intro hx (And.intro hlt (And.intro hbW (And.intro hRR (And.intro hsW (And.intro hrd hvW))))))
      clear hx hlt hTr hrd hbW hRR hsW hvW
      subst hA'
      go_upto_region 5 with (fail)
      clear d0 d1 d2 d3 d4 hW hbl v1
      have c0 : ∀ p : BelowOf W, p.X.cell? ⟨wr.heap.size, 0, none⟩ = some (.string x.n) := fun p => (Blk.low HX.out.2.2.2.1 p).cell 0
      have c1 : ∀ p : BelowOf W, p.X.cell? ⟨wr.heap.size, 1, none⟩ = some (.int .u16 x.t) := fun p => (Blk.low HX.out.2.2.2.1 p).cell 1
      have v0 : ∀ p : BelowOf W, p.X.cell? ⟨vb, 0, none⟩ = some (.string z) := fun p => (Blk.low HX.out.2.2.2.2.2.2 p).cell 0
      have HSA := Lib.hid (fun W => Same_any x.n z (by have := HX.out.2.2.2.2.2.1.1.1; omega) (by have := HH.out.1.hz; omega) W)
      obtain ⟨sm, hsm⟩ : ∃ sm, sameB x.n.data.toList z.data.toList = sm := ⟨_, rfl⟩
      rw [hsm] at HSA
      have HSM := Lib.hid hsm
      clear hsm
      have hw1 : IntKind.i64.wrap ((k : Int) + 1) = ((k + 1 : Nat) : Int) := by rw [IntKind.wrap_i64]; have := HX.out.2.1; have := HH.out.1.len; omega
      by_cases ht : x.t = 2
      · have e2 : (x.t == 2) = true := by simp [ht]
        have HT := Lib.hid ht
        clear ht
        refine wp_region_low (by kernel_rfl) (by kernel_rfl) ?_
        repeat (refine low_step (fun K hK => ?_); go_simp; first | (refine hK _ ?_; clear hK K) | (apply Exists.intro; refine ⟨fun _ => ?_, hK _ ?_⟩; (go_at_call 13; exact calls_low (HSA.out _)); clear hK K))
        refine low_nil ?_
        rintro ⟨W2, hb2⟩
        dsimp only
        have hRR2 := HX.out.2.2.2.1.below hb2 HX.out.2.2.2.1.lt
        have q0 := hRR2.cell 0
        have hs2 : Sl W2 1 (.slice Al M.length cl) M.length (M.map Value.string) := HX.out.2.2.2.2.1.below hb2 HX.out.2.2.2.2.1.lt
        have hbw2 : Below w.heap.size w W2 := HX.out.2.2.1.trans (hb2.mono HX.out.2.2.1.size)
        have HY := Lib.hid (And.intro hs2 hbw2)
        clear hRR2 hs2 hbw2 hb2 c0 c1 v0
        cases sm with
        | false =>
          have hcf : zcF z.data.toList x = true := by
            have : sameB x.nb z.data.toList = false := HSM.out
            simp [zcF, HT.out, this]
          have HSN := Lib.hid (cutsR_snoc z.data.toList xs HX.out.1)
          rw [hcf, if_pos rfl, ← hM.out] at HSN
          clear hcf
          have HSL := Lib.hid (HY.out.1.alloc (.cells #[.string x.n] 9))
          go_wp2_with (at_builtin; go_must (refine wpList_append_sl _ rfl (.tmp 30) (.tmp 33) 34 34 rfl 9 i0 (.string ⟨#[]⟩) 1 16 Tryz.underlying34 hi0 hz0 hz1 hz2 rfl (.slice Al M.length cl) M.length (M.map Value.string) rfl HSL.out _ rfl 1 [.string x.n] (src_new (P := Tryz.prog) Tryz.underlying34 W2 9 (.string x.n) rfl) (by unfold maxLen; omega) (by omega) ?_); intro v3 w9 hs3 hg3 hv3; obtain ⟨A3, c3, rfl, hc3, hm3⟩ := hs3.shape; have H3 := Lib.hid (And.intro hs3 (And.intro hg3 hv3)); clear hs3 hg3 hv3 hc3 hm3)
          go_roundg (xs.length - (k + 1))
          case measure => have := hg.out; have := HX.out.2.1; omega
          case rel =>
            obtain ⟨hs3, hg3, hv3⟩ := H3.out
            have hl : (M ++ [x.n]).length = M.length + 1 := by simp
            have hbA : Below w.heap.size w (W2.alloc (.cells #[.string x.n] 9)) := HY.out.2.alloc HY.out.2.size _
            refine ⟨k + 1, A3, c3, M ++ [x.n], by go_num, by rw [hl], (show xs.length - (k + 1) + (k + 1) = xs.length by have := HX.out.2.1; omega), HSN.out.symm, hbA.grown hg3 hbA.size (fun g hg => ho.out g hg), ?_, fun g hg => ?_⟩
            · show Sl w9 1 _ _ _
              rw [hl, List.map_append]
              exact hs3
            · rw [hl] at hg
              rcases hv3 with e | e
              · rw [e] at hg; exact ho.out g hg
              · rw [e] at hg; injection hg with hg; have := hbA.size; omega
        | true =>
          have hcf : zcF z.data.toList x = false := by
            have : sameB x.nb z.data.toList = true := HSM.out
            simp [zcF, this]
          have HSN := Lib.hid (cutsR_snoc z.data.toList xs HX.out.1)
          rw [hcf, ← hM.out] at HSN
          clear hcf
          go_wp2_with (fail)
          go_roundg (xs.length - (k + 1))
          case measure => have := hg.out; have := HX.out.2.1; omega
          case rel => exact ⟨k + 1, Al, cl, M, by go_num, rfl, (show xs.length - (k + 1) + (k + 1) = xs.length by have := HX.out.2.1; omega), by show M = _; rw [HSN.out]; simp, HY.out.2, HY.out.1, ho.out⟩
      · have e2 : (x.t == 2) = false := by simp [ht]
        have HT := Lib.hid ht
        clear ht
        refine wp_region_low (by kernel_rfl) (by kernel_rfl) ?_
        repeat (refine low_step (fun K hK => ?_); go_simp; first | (refine hK _ ?_; clear hK K) | (apply Exists.intro; refine ⟨fun _ => ?_, hK _ ?_⟩; (go_at_call 13; exact calls_low (HSA.out _)); clear hK K))
        refine low_nil ?_
        rintro ⟨W2, hb2⟩
        dsimp only
        have hs2 : Sl W2 1 (.slice Al M.length cl) M.length (M.map Value.string) := HX.out.2.2.2.2.1.below hb2 HX.out.2.2.2.2.1.lt
        have hbw2 : Below w.heap.size w W2 := HX.out.2.2.1.trans (hb2.mono HX.out.2.2.1.size)
        have HY := Lib.hid (And.intro hs2 hbw2)
        clear hs2 hbw2 hb2 c0 c1 v0
        have hcf : zcF z.data.toList x = false := by simp [zcF, HT.out]
        have HSN := Lib.hid (cutsR_snoc z.data.toList xs HX.out.1)
        rw [hcf, ← hM.out] at HSN
        clear hcf
        go_wp2_with (fail)
        go_roundg (xs.length - (k + 1))
        case measure => have := hg.out; have := HX.out.2.1; omega
        case rel => exact ⟨k + 1, Al, cl, M, by go_num, rfl, (show xs.length - (k + 1) + (k + 1) = xs.length by have := HX.out.2.1; omega), by show M = _; rw [HSN.out]; simp, HY.out.2, HY.out.1, ho.out⟩
    · have hltI : ¬ (k : Int) < (xs.length : Int) := by omega
      have hM2 : M = cutsR z.data.toList xs := by have := hM.out; rwa [List.take_of_length_le (by omega)] at this
      have HM := Lib.hid hM2
      have hT : TTab wr Al (M.map Value.string) := by
        have h9 := hs.out
        have e : (M.map Value.string).length = M.length := by simp
        rw [← e] at h9
        exact ttab_of_sl h9
      have HSO := Lib.hid (Sort_any stable_allPl M Al cl wr hT (fun y hy => by
        rw [hM2] at hy
        obtain ⟨r, hr, rfl⟩ := List.mem_map.1 hy
        have := (HH.out.1.ok r (List.mem_filter.1 hr).1).1.1
        omega) (by omega) (by omega))
      clear hM hM2 hT
      go_wp2_with (fail)
      with_reducible refine HSO.out.mono ?_
      rintro e W4 ⟨A4, c4, rfl, hs4, ho4, hb4⟩
      have H4 := Lib.hid (And.intro hs4 (And.intro ho4 hb4))
      clear hs4 ho4 hb4
      go_wp2_with (fail)
      go_ret
      rw [← HM.out]
      exact ⟨A4, c4, rfl, H4.out.1, fun g hg => Nat.le_trans hb.out.size (H4.out.2.1 g hg), hb.out.trans (H4.out.2.2.mono hb.out.size)⟩
end Go.Proofs.YthnngndnpigjbaaGreat

namespace Go.Proofs.YthnngndnpigjbaaGreat
open Go.RowKit Go.Lib Go.Maps
attribute [local go_sem] Oper.semAt_some

/-- The cuts of a zone, in order. -/
def cutsN (z : Bs) (xs : List RRec) : List Bs := sortN ((cutsR z xs).map fun x => x.data.toList)
set_option maxRecDepth 100000 in
set_option maxHeartbeats 1000000 in
theorem zCuts_any (z : ByteArray) (A : Option Addr) (c : Nat) (xs : List RRec) (w : World) (h : ZonS z A xs w) (hzb : zoneB z.data.toList xs = true) :
    Calls Tryz.prog 11 #[.agg #[.string z, .slice A xs.length c]] w (CollPost (cutsN z.data.toList xs) w) := by
  have HH := Lib.hid h
  clear h
  go_enter Tryz.func11, Tryz.ntmps11
  go_wp2_with (fail)
  obtain ⟨W, hW⟩ : ∃ W, w.alloc (.cells #[.string z, .slice A xs.length c] 24) = W := ⟨_, rfl⟩
  have hb : Below w.heap.size w W := by rw [← hW]; exact (Below.refl _ _).alloc (Nat.le_refl _) _
  rw [hW]
  have hS := HH.out.low hb
  have HB := Lib.hid hb
  clear hW hb
  refine (see_any z A c xs hS.hz hS.len hS.ok W hS.tab).mono ?_
  rintro e w1 ⟨⟨sb, nb, rfl⟩, hb1⟩
  rw [hzb]
  obtain ⟨W1, hW1⟩ : ∃ W1, w1.alloc (.cells #[.string z, .slice A xs.length c, .map (some sb), .map (some nb)] 59) = W1 := ⟨_, rfl⟩
  have hbW1 : Below w.heap.size w W1 := by rw [← hW1]; exact (HB.out.trans (hb1.mono HB.out.size)).alloc (Nat.le_trans HB.out.size hb1.size) _
  have hv1 : Blk W1 w1.heap.size 59 #[.string z, .slice A xs.length c, .map (some sb), .map (some nb)] := by rw [← hW1]; exact Blk.new _ _ _
  have HC := Lib.hid (zcuts_any w1.heap.size sb nb z A c xs W1 (HH.out.low hbW1) hv1)
  have HB1 := Lib.hid hbW1
  clear hbW1 hv1 hS hb1 hzb
  go_wp2_with (fail)
  with_reducible refine HC.out.mono ?_
  rintro e W4 ⟨A4, c4, rfl, hs4, ho4, hb4⟩
  have H4 := Lib.hid (And.intro hs4 (And.intro ho4 hb4))
  clear hs4 ho4 hb4
  go_wp2_with (fail)
  go_ret
  exact ⟨A4, c4, rfl, H4.out.1, fun g hg => Nat.le_trans HB1.out.size (H4.out.2.1 g hg), HB1.out.trans (H4.out.2.2.mono HB1.out.size)⟩

set_option maxRecDepth 100000 in
set_option maxHeartbeats 4000000 in
theorem zCut_any (z : ByteArray) (A : Option Addr) (c : Nat) (xs : List RRec) (n : ByteArray) (w : World) (h : ZonS z A xs w) (hn : n.size ≤ 1000) (hzb : zoneB z.data.toList xs = true) (hnm : isName n.data.toList = true) (hne : rightL (xs.filter (nearR 2 n)) ≠ [])
    (hin : n.data.toList ∈ cutsN z.data.toList xs) (hself : withinB n.data.toList n.data.toList = true) (huq : ∀ y ∈ cutsN z.data.toList xs, y.length ≤ 1000 ∧ (withinB n.data.toList y = true → y = n.data.toList)) :
    Calls Tryz.prog 12 #[.agg #[.string z, .slice A xs.length c], .string n] w (FoundP n 2 (rightL (xs.filter (nearR 2 n))) w) := by
  obtain ⟨L, hL⟩ : ∃ L, cutsN z.data.toList xs = L := ⟨_, rfl⟩
  rw [hL] at hin huq
  have HH := Lib.hid (And.intro h (And.intro hn (And.intro hnm (And.intro hne (And.intro hin (And.intro hself huq))))))
  clear h hn hnm hne hin hself huq
  go_enter Tryz.func12, Tryz.ntmps12
  go_wp2_with (fail)
  obtain ⟨W, hW⟩ : ∃ W, (w.alloc (.cells #[.string z, .slice A xs.length c] 24)).alloc (.cells #[.string ⟨#[]⟩, .int .u16 0, .int .u32 0, .slice none 0 0] 36) = W := ⟨_, rfl⟩
  have hb : Below w.heap.size w W := by rw [← hW]; exact ((Below.refl _ _).alloc (Nat.le_refl _) _).alloc (by simp) _
  have hr : Blk W (w.heap.size + 1) 36 #[.string ⟨#[]⟩, .int .u16 0, .int .u32 0, .slice none 0 0] := by
    have := Blk.new (w.alloc (.cells #[.string z, .slice A xs.length c] 24)) 36 #[.string ⟨#[]⟩, .int .u16 0, .int .u32 0, .slice none 0 0]
    rw [World.size_alloc] at this
    rw [← hW]; exact this
  rw [hW]
  have hS := HH.out.1.low hb
  have HB := Lib.hid (And.intro hb hr)
  clear hW hb hr
  refine (see_any z A c xs hS.hz hS.len hS.ok W hS.tab).mono ?_
  rintro e w1 ⟨⟨sb, nb, rfl⟩, hb1⟩
  rw [hzb]
  obtain ⟨W1, hW1⟩ : ∃ W1, w1.alloc (.cells #[.string z, .slice A xs.length c, .map (some sb), .map (some nb)] 59) = W1 := ⟨_, rfl⟩
  have hbW1 : Below w.heap.size w W1 := by rw [← hW1]; exact (HB.out.1.trans (hb1.mono HB.out.1.size)).alloc (Nat.le_trans HB.out.1.size hb1.size) _
  have hr1 : Blk W1 (w.heap.size + 1) 36 #[.string ⟨#[]⟩, .int .u16 0, .int .u32 0, .slice none 0 0] := by rw [← hW1]; exact (HB.out.2.below hb1 HB.out.2.lt).alloc _
  have hv1 : Blk W1 w1.heap.size 59 #[.string z, .slice A xs.length c, .map (some sb), .map (some nb)] := by rw [← hW1]; exact Blk.new _ _ _
  have hc := zcuts_any w1.heap.size sb nb z A c xs W1 (HH.out.1.low hbW1) hv1
  unfold cutsN at hL
  rw [hL] at hc
  have HC := Lib.hid hc
  have HB1 := Lib.hid (And.intro hbW1 (And.intro hr1 hv1))
  obtain ⟨vb, hvb⟩ : ∃ vb, w1.heap.size = vb := ⟨_, rfl⟩
  rw [hvb] at HC HB1
  clear hbW1 hr1 hv1 hS hb1 hzb hc hL
  go_wp2_with (fail)
  with_reducible refine HC.out.mono ?_
  rintro e W4 ⟨A4, c4, rfl, hs4, ho4, hb4⟩
  clear hW1 hvb
  have H4 := Lib.hid (And.intro hs4 (And.intro ho4 hb4))
  clear hs4 ho4 hb4
  obtain ⟨cn, hcn⟩ : ∃ cn, (namL n.data.toList).length = cn := ⟨_, rfl⟩
  have HCN := Lib.hid hcn
  clear hcn
  go_wp2_with (fail)
  go_loopg [8, 9, 23] L.length (fun gg v8 v9 v23 wr => ∃ (k : Nat) (b : ByteArray) (f : Int), v23 = .int .i64 (k : Int) ∧ v8 = .string b ∧ v9 = .int .i64 f ∧ Aside (gg + k = L.length) ∧ Aside ((f = -1 ∧ n.data.toList ∉ L.take k) ∨ (b = n ∧ f = (cn : Int))) ∧ Aside (Below W4.heap.size W4 wr))
  case atStart => exact ⟨0, ⟨#[]⟩, -1, rfl, rfl, rfl, (by show _ = _; omega), .inl ⟨rfl, by simp⟩, Below.refl _ _⟩
  case round =>
    obtain ⟨k, b, f, rfl, rfl, rfl, hg, hst, hb⟩ := hrel
    by_cases hlt : k < L.length
    · have hltI : (k : Int) < (L.length : Int) := by omega
      obtain ⟨x, hx⟩ : ∃ x, L[k]? = some x := ⟨_, List.getElem?_eq_getElem hlt⟩
      have hxm := List.mem_of_getElem? hx
      obtain ⟨b', off', hA', hbl, hcs⟩ := sl_tt (H4.out.1.below hb.out H4.out.1.lt) (by rw [strs_len]; omega)
      have d0 : wr.cell? ⟨b', off' + k, none⟩ = some (.string ⟨x.toArray⟩) := hcs k _ (strs_get hx)
      subst hA'
      have hxs := (HH.out.2.2.2.2.2.2 x hxm).1
      obtain ⟨xb, hxb⟩ : ∃ xb : ByteArray, (⟨x.toArray⟩ : ByteArray) = xb := ⟨_, rfl⟩
      have hxd : xb.data.toList = x := by rw [← hxb]
      have hxz : xb.size ≤ 1000 := by have := bsize xb; rw [hxd] at this; omega
      rw [hxb] at d0
      have HWI := Lib.hid (Within_any n xb (by have := HH.out.2.1; unfold maxLen; omega) (by unfold maxLen; omega) wr)
      have hw1 : IntKind.i64.wrap ((k : Int) + 1) = ((k + 1 : Nat) : Int) := by
        rw [IntKind.wrap_i64]
        have h9 := H4.out.1.form (by omega)
        obtain ⟨_, _, _, _, h8, h7, _⟩ := h9
        unfold maxLen at h7
        omega
      have htk : L.take (k + 1) = L.take k ++ [x] := by rw [List.take_add_one, hx]; rfl
      have HX := Lib.hid (And.intro hx (And.intro hlt (And.intro hxm (And.intro hxd (And.intro hxz htk)))))
      rw [hxd] at HWI
      clear hx hlt hxm hbl hcs hxs hxb hxd hxz htk
      cases hwi : withinB n.data.toList x with
      | false =>
        rw [hwi] at HWI
        have HWF := Lib.hid hwi
        clear hwi
        go_wp2_with (fail)
        with_reducible refine HWI.out.mono ?_
        rintro e w5 ⟨rfl, hb5⟩
        have HB5 := Lib.hid (hb.out.trans (hb5.mono hb.out.size))
        clear hb5 d0
        go_wp2_with (fail)
        go_roundg (L.length - (k + 1))
        case measure => have := hg.out; have := HX.out.2.1; omega
        case rel =>
          refine ⟨k + 1, b, f, by go_num, rfl, rfl, (show L.length - (k + 1) + (k + 1) = L.length by have := HX.out.2.1; omega), ?_, HB5.out⟩
          rcases hst.out with ⟨h1, h2⟩ | h
          · refine .inl ⟨h1, fun hm => ?_⟩
            rw [HX.out.2.2.2.2.2] at hm
            rcases List.mem_append.1 hm with hm | hm
            · exact h2 hm
            · rw [List.mem_singleton] at hm
              have h3 := HH.out.2.2.2.2.2.1
              have h4 := HWF.out
              rw [← hm, h3] at h4
              cases h4
          · exact .inr h
      | true =>
        rw [hwi] at HWI
        have hxn : x = n.data.toList := (HH.out.2.2.2.2.2.2 x HX.out.2.2.1).2 hwi
        have hbn : xb = n := by
          have h1 := HX.out.2.2.2.1
          rw [hxn] at h1
          cases xb; cases n
          simpa using h1
        subst hbn
        have HCO := Lib.hid (fun W => Count_any xb (by have := HH.out.2.1; unfold maxLen; omega) W)
        rw [HCN.out] at HCO
        clear hwi hxn
        go_wp2_with (fail)
        with_reducible refine HWI.out.mono ?_
        rintro e w5 ⟨rfl, hb5⟩
        have hB5 := hb.out.trans (hb5.mono hb.out.size)
        have HB5 := Lib.hid hB5
        clear hb5 d0 hB5
        go_wp2_with (fail)
        with_reducible refine (HCO.out _).mono ?_
        rintro e w6 ⟨rfl, hb6⟩
        have HB6 := Lib.hid (HB5.out.trans (hb6.mono HB5.out.size))
        clear hb6
        have hc0 : ¬ ((cn : Int) < 0) := by omega
        rcases hst.out with ⟨rfl, h2⟩ | ⟨rfl, rfl⟩
        · clear hst h2
          go_wp2_with (fail)
          go_roundg (L.length - (k + 1))
          case measure => have := hg.out; have := HX.out.2.1; omega
          case rel => exact ⟨k + 1, xb, (cn : Int), by go_num, rfl, rfl, (show L.length - (k + 1) + (k + 1) = L.length by have := HX.out.2.1; omega), .inr ⟨rfl, rfl⟩, HB6.out⟩
        · clear hst
          go_wp2_with (fail)
          go_roundg (L.length - (k + 1))
          case measure => have := hg.out; have := HX.out.2.1; omega
          case rel => exact ⟨k + 1, b, (cn : Int), by go_num, rfl, rfl, (show L.length - (k + 1) + (k + 1) = L.length by have := HX.out.2.1; omega), .inr ⟨rfl, rfl⟩, HB6.out⟩
    · have hltI : ¬ (k : Int) < (L.length : Int) := by omega
      have hbf : b = n ∧ f = (cn : Int) := by
        rcases hst.out with ⟨h1, h2⟩ | h
        · rw [List.take_of_length_le (by omega)] at h2
          exact absurd HH.out.2.2.2.2.1 h2
        · exact h
      obtain ⟨rfl, rfl⟩ := hbf
      have hc0 : ¬ ((cn : Int) < 0) := by omega
      have hbb : Below W1.heap.size W1 wr := H4.out.2.2.trans (hb.out.mono H4.out.2.2.size)
      have c1 : wr.cell? ⟨vb, 1, none⟩ = some (.slice A xs.length c) := (HB1.out.2.2.below hbb HB1.out.2.2.lt).cell 1
      have hbw : Below w.heap.size w wr := HB1.out.1.trans (hbb.mono HB1.out.1.size)
      have HFD := Lib.hid (findS_any stable_all b 2 A c xs wr (HH.out.1.low hbw).tab (by have := HH.out.1.len; omega) (by have := HH.out.1.len; omega) (by have := HH.out.2.1; omega) (fun r hr => ⟨by have := (HH.out.1.ok r hr).1.1; omega, by have := (HH.out.1.ok r hr).1.2; omega, (HH.out.1.ok r hr).2.2.2.2⟩))
      have HRR := Lib.hid (And.intro hbw (HB1.out.2.1.below hbb HB1.out.2.1.lt))
      clear hst hbb hbw hb hlt hg
      go_wp2_with (fail)
      with_reducible refine HFD.out.mono ?_
      intro e w2 hf
      obtain ⟨lm, Ad, ln, cd, rfl, hr2, hs3, hf3⟩ := found_store (findP_found hf HH.out.2.2.1 HH.out.2.2.2.1) HRR.out.1 (b := w.heap.size + 1) (by omega) HRR.out.2
      have r0 := hr2.cell 0
      have r1 := hr2.cell 1
      have r2 := hr2.cell 2
      have r3 := hr2.cell 3
      have g0 := hr2.frozen 0
      have g1 := hr2.frozen 1
      have g2 := hr2.frozen 2
      have g3 := hr2.frozen 3
      have HF3 := Lib.hid (And.intro hs3 hf3)
      clear hr2 hs3 hf3 hf c1
      go_wp2_with (fail)
      have d0 := HF3.out.1.cell 0
      have d1 := HF3.out.1.cell 1
      have d2 := HF3.out.1.cell 2
      have d3 := HF3.out.1.cell 3
      exact bodyPost_ret (v := .tuple #[.agg #[.string b, .int .u16 2, .int .u32 lm, .slice Ad ln cd], .int .i64 0]) (by simp [results, Tryz.results12, go_sem, d0, d1, d2, d3]) rfl HF3.out.2
end Go.Proofs.YthnngndnpigjbaaGreat
