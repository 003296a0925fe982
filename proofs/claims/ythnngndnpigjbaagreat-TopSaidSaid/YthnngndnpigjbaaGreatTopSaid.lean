/- hardtacktop.begins. The walk of hardtacktop.TopSaid. Conditions: none. -/
import Derived.Test.YthnngndnpigjbaaGreatCount
import Derived.OwnWalk
import Derived.Test.YthnngndnpigjbaaGreatSd
import Derived.Test.YthnngndnpigjbaaGreatSays
namespace Go.Proofs.YthnngndnpigjbaaGreat
open Go.RowKit

def nmBeg : ByteArray := ⟨#[1, 97, 3, 111, 114, 103, 0]⟩
theorem begins_cnt (w : World) : Calls Tryz.prog 14 #[.string nmBeg] w fun e w' => e = .returned (.int .i64 2) ∧ Below w.heap.size w w' := by
  have := Count_any nmBeg (by decide) w
  rw [show (namL nmBeg.data.toList).length = 2 by decide] at this
  exact this
set_option maxRecDepth 100000 in
theorem begins_any (w : World) : Calls Tryz.prog 4 #[] w fun e w' => e = .returned (.bool true) ∧ Below w.heap.size w w' := by
  go_enter Tryz.func4, Tryz.ntmps4
  go_wp2_with (fail)
  refine (begins_cnt _).mono ?_
  rintro e w1 ⟨rfl, hb1⟩
  have B1 := Lib.hid hb1
  clear hb1
  go_wp2_with (fail)
  go_ret
  exact ⟨rfl, B1.out⟩
end Go.Proofs.YthnngndnpigjbaaGreat

namespace Go.Proofs.YthnngndnpigjbaaGreat
open Go.RowKit Go.Lib Go.Maps

theorem stab_got {w : World} {A : Option Addr} {c : Nat} {ds : List ByteArray} (h : Sl w 1 (.slice A ds.length c) ds.length (ds.map Value.string)) : STab w A ds := by
  have e : (ds.map Value.string).length = ds.length := by simp
  rw [← e] at h
  exact ttab_of_sl h
theorem rtab_got {w : World} {A : Option Addr} {c : Nat} {R : List RRec} (h : Sl w 5 (.slice A R.length c) R.length (flatV RRec.vs R)) : RTab w A R := rtab_of_sl h
theorem store8 {U W : World} {B b : Nat} {T : TypeId} {z0 z1 z2 z3 z4 z5 z6 z7 : Value} (hr : Blk W b T #[z0, z1, z2, z3, z4, z5, z6, z7]) (hb : Below B U W) (hB : B ≤ b) (v0 v1 v2 v3 v4 v5 v6 v7 : Value) :
    Blk ((((((((W.setCell ⟨b, 0, none⟩ v0).setCell ⟨b, 1, none⟩ v1).setCell ⟨b, 2, none⟩ v2).setCell ⟨b, 3, none⟩ v3).setCell ⟨b, 4, none⟩ v4).setCell ⟨b, 5, none⟩ v5).setCell ⟨b, 6, none⟩ v6).setCell ⟨b, 7, none⟩ v7) b T #[v0, v1, v2, v3, v4, v5, v6, v7] ∧ Below B U ((((((((W.setCell ⟨b, 0, none⟩ v0).setCell ⟨b, 1, none⟩ v1).setCell ⟨b, 2, none⟩ v2).setCell ⟨b, 3, none⟩ v3).setCell ⟨b, 4, none⟩ v4).setCell ⟨b, 5, none⟩ v5).setCell ⟨b, 6, none⟩ v6).setCell ⟨b, 7, none⟩ v7) ∧ ∀ {sz len : Nat} {v : Value} {ys : List Value}, Sl W sz v len ys → (∀ g, v.ownBlock = some g → g ≠ b) → Sl ((((((((W.setCell ⟨b, 0, none⟩ v0).setCell ⟨b, 1, none⟩ v1).setCell ⟨b, 2, none⟩ v2).setCell ⟨b, 3, none⟩ v3).setCell ⟨b, 4, none⟩ v4).setCell ⟨b, 5, none⟩ v5).setCell ⟨b, 6, none⟩ v6).setCell ⟨b, 7, none⟩ v7) sz v len ys := by
  refine ⟨?_, ((((((((hb.setCell (p := ⟨b, 0, none⟩) hB _).setCell (p := ⟨b, 1, none⟩) hB _).setCell (p := ⟨b, 2, none⟩) hB _).setCell (p := ⟨b, 3, none⟩) hB _).setCell (p := ⟨b, 4, none⟩) hB _).setCell (p := ⟨b, 5, none⟩) hB _).setCell (p := ⟨b, 6, none⟩) hB _).setCell (p := ⟨b, 7, none⟩) hB _), fun hs ho => ((((((((hs.far (p := ⟨b, 0, none⟩) ho _).far (p := ⟨b, 1, none⟩) ho _).far (p := ⟨b, 2, none⟩) ho _).far (p := ⟨b, 3, none⟩) ho _).far (p := ⟨b, 4, none⟩) ho _).far (p := ⟨b, 5, none⟩) ho _).far (p := ⟨b, 6, none⟩) ho _).far (p := ⟨b, 7, none⟩) ho _)⟩
  have h9 := ((((((((hr.set_ 0 v0).set_ 1 v1).set_ 2 v2).set_ 3 v3).set_ 4 v4).set_ 5 v5).set_ 6 v6).set_ 7 v7)
  simpa using h9
set_option maxRecDepth 100000 in
set_option maxHeartbeats 16000000 in
theorem topSaid_law (w : World) (z : ByteArray) (A : Option Addr) (xs : List RRec) (c : Nat) (hz : z.size ≤ maxLen) (hT : RTab w A xs) (hx : ∀ r ∈ xs, r.ok) (hxc : xs.length ≤ c) (hcm : c ≤ maxLen) :
    Calls Tryz.prog 3 #[.agg #[.string z, .slice A xs.length c]] w fun e w' => e = .returned (.bool true) ∧ Below w.heap.size w w' := by
  have HA := Lib.hid (And.intro hT (And.intro hx (And.intro hz (show xs.length ≤ maxLen by omega))))
  clear hT hx hxc hcm hz
  go_enter Tryz.func3, Tryz.ntmps3
  go_upto_region 1 with (fail)
  obtain ⟨W1, hW1⟩ : ∃ W1, w.alloc (.cells #[.string z, .slice A xs.length c] 24) = W1 := ⟨_, rfl⟩
  have hb1 : Below w.heap.size w W1 := by rw [← hW1]; exact (Below.refl _ _).alloc (Nat.le_refl _) _
  have k1 : Blk W1 w.heap.size 24 #[.string z, .slice A xs.length c] := by rw [← hW1]; exact Blk.new _ _ _
  have hl1 : W1.heap.size = w.heap.size + 1 := by rw [← hW1]; simp
  rw [hW1]
  clear hW1
  have H1 := Lib.hid (And.intro hb1 (And.intro k1 hl1))
  clear hb1 k1 hl1
  go_wp2_with (fail)
  with_reducible refine (begins_any _).mono ?_
  rintro e w2 ⟨rfl, hb⟩
  have k2 := H1.out.2.1.below hb H1.out.2.1.lt
  have HSM := Lib.hid (small22_any z A c xs w2 HA.out.2.2.1 (HA.out.1.below (H1.out.1.trans (hb.mono H1.out.1.size))) (fun r hr => (HA.out.2.1 r hr).1) HA.out.2.2.2)
  have H2 := Lib.hid hb
  have x0 := k2.cell 0; have x1 := k2.cell 1
  clear hb k2
  go_wp2_with (fail)
  with_reducible refine HSM.out.mono ?_
  rintro e w3 ⟨hsm, hb⟩
  have hB3 := H2.out.trans (hb.mono H2.out.size)
  have H3 := Lib.hid hB3
  have k3 := H1.out.2.1.below hB3 H1.out.2.1.lt
  clear hb HSM H2 hB3 x0 x1
  rcases hsm with rfl | ⟨rfl, hzl, hsmall⟩
  · clear k3
    go_wp2_with (fail)
    go_ret
    exact ⟨rfl, H1.out.1.trans (H3.out.mono H1.out.1.size)⟩
  have hZ1 : ZonS z A xs W1 := ⟨hzl.1, hzl.2, fun r hr => ⟨hsmall r hr, HA.out.2.1 r hr⟩, HA.out.1.below H1.out.1⟩
  have HCK := Lib.hid (zCheck_any z A c xs w3 (hZ1.low H3.out))
  have HZ := Lib.hid hZ1
  have x0 := k3.cell 0; have x1 := k3.cell 1
  have hlI : (xs.length : Int) ≤ 60 := by have := hzl.2; omega
  clear hZ1 hzl hsmall k3
  cases hzb : zoneB z.data.toList xs with
  | false =>
    rw [zCode_no hzb] at HCK
    clear hzb
    go_wp2_with (fail)
    with_reducible refine HCK.out.mono ?_
    rintro e w4 ⟨rfl, hb⟩
    have H4 := Lib.hid (H3.out.trans (hb.mono H3.out.size))
    clear hb x0 x1
    go_wp2_with (fail)
    go_ret
    exact ⟨rfl, H1.out.1.trans (H4.out.mono H1.out.1.size)⟩
  | true =>
    rw [zCode_yes hzb] at HCK
    have HZB := Lib.hid hzb
    clear hzb
    go_wp2_with (fail)
    with_reducible refine HCK.out.mono ?_
    rintro e w4 ⟨rfl, hb⟩
    have hB4 := H3.out.trans (hb.mono H3.out.size)
    have H4 := Lib.hid hB4
    have k4 := H1.out.2.1.below hB4 H1.out.2.1.lt
    clear hb x0 x1 hB4 HCK
    have x1 := k4.cell 1
    clear k4
    go_wp2_with (fail)
    go_loopg [6, 28] xs.length (fun gg v6 v28 wr => ∃ k : Nat, v28 = .int .i64 (k : Int) ∧ Aside (gg + k = xs.length) ∧ Aside (Below W1.heap.size W1 wr))
    case atStart => exact ⟨0, rfl, rfl, H4.out⟩
    case round =>
      clear x1
      obtain ⟨k, rfl, hg, hB⟩ := hrel
      by_cases hlt : k < xs.length
      · have hltI : (k : Int) < (xs.length : Int) := by omega
        obtain ⟨x, hx⟩ : ∃ x, xs[k]? = some x := ⟨_, List.getElem?_eq_getElem hlt⟩
        have hxm := List.mem_of_getElem? hx
        have hZr := HZ.out.low hB.out
        have hTr := hZr.tab
        obtain ⟨b', off', hA', hbl, d0, d1, d2, d3, d4⟩ := hTr.cells hx
        have hxo := (HZ.out.ok x hxm)
        obtain ⟨hnm, hne, hmm⟩ := zone_near HZB.out hxm x.n x.t rfl rfl
        have hzn : z.size ≤ 1000 := HZ.out.hz
        obtain ⟨W, hW⟩ : ∃ W, wr.alloc (.cells #[.string x.n, .int .u16 x.t, .int .u16 x.c, .int .u32 x.l, .string x.d] 33) = W := ⟨_, rfl⟩
        have hbW : Below W1.heap.size W1 W := by rw [← hW]; exact hB.out.alloc hB.out.size _
        have hRR : Blk W wr.heap.size 33 #[.string x.n, .int .u16 x.t, .int .u16 x.c, .int .u32 x.l, .string x.d] := by rw [← hW]; exact Blk.new _ _ _
        have HGET := Lib.hid (zGet_any z A c xs x.n x.t W (HZ.out.low hbW) hxo.1.1 HZB.out hnm hne)
        have kz := H1.out.2.1.below hbW H1.out.2.1.lt
        have y0 := kz.cell 0; have y1 := kz.cell 1
        have q0 := hRR.cell 0; have q1 := hRR.cell 1
        have hF1 : ∀ (w : World) (e : Ending) (w' : World), FoundP x.n x.t (rightL (xs.filter (nearR x.t x.n))) w e w' → ∃ (l : Int) (ds : List ByteArray), setOk x.n x.t l ds = true ∧ 0 ≤ l ∧ GotP x.n x.t l ds w e w' := (fun _ _ _ h => got_first h hnm hne (fun r hr => ⟨(HZ.out.ok r (hmm r hr).1).2.2.2.2.1, (hmm r hr).2.1⟩) (fun r hr => (hmm r hr).2.2))
        have HF1 := Lib.hid hF1
        have HX := Lib.hid (And.intro hlt (And.intro hbW (And.intro hRR (And.intro hxo hnm))))
        clear hF1 hlt hxm hZr hTr hxo hnm hne hmm hbW hRR kz hx
        obtain ⟨n, t, xc, xl, xd⟩ := x
        dsimp only at *
        subst hA'
        go_upto_region 8 with (fail)
        try rw [hW]
        clear hW d0 d1 d2 d3 d4 hbl
        go_wp2_with (fail)
        with_reducible refine HGET.out.mono ?_
        intro e w5 hf
        obtain ⟨l, ds, hok, hl0, Ad, cd, rfl, hs5, ho5, hb5⟩ := HF1.out _ _ _ hf
        have hb5' := HX.out.2.1.trans (hb5.mono HX.out.2.1.size)
        have hR5 := HX.out.2.2.1.below hb5 HX.out.2.2.1.lt
        have H5 := Lib.hid (And.intro hok (And.intro hl0 (And.intro hs5 (And.intro ho5 (And.intro hb5' (And.intro hR5 (show wr.heap.size < W.heap.size from HX.out.2.2.1.lt)))))))
        clear hok hl0 hs5 ho5 hb5 hb5' hf y0 y1 q0 q1 HGET HF1
        have q0 := hR5.cell 0; have q1 := hR5.cell 1
        have hrl5 := hR5.lt
        clear hR5
        dsimp only [setV]
        go_upto_region 12 with (fail)
        obtain ⟨W6, hW6⟩ : ∃ W6, (w5.alloc (.cells #[.string n, .int .u16 t, .int .u32 l, .slice Ad ds.length cd] 36)).alloc (.cells #[.string n, .int .u16 t, .int .u16 1] 40) = W6 := ⟨_, rfl⟩
        have hb6 : Below w5.heap.size w5 W6 := by rw [← hW6]; exact ((Below.refl _ _).alloc (Nat.le_refl _) _).alloc (by simp) _
        have s6 : Blk W6 w5.heap.size 36 #[.string n, .int .u16 t, .int .u32 l, .slice Ad ds.length cd] := by rw [← hW6]; exact (Blk.new _ _ _).alloc _
        have q6 : Blk W6 (w5.heap.size + 1) 40 #[.string n, .int .u16 t, .int .u16 1] := by rw [← hW6]; exact heap_alloc2_new w5 _ _
        rw [hW6]
        clear hW6 q0 q1 hrl5
        have hb6' := H5.out.2.2.2.2.1.trans (hb6.mono H5.out.2.2.2.2.1.size)
        have z6 := H1.out.2.1.below hb6' H1.out.2.1.lt
        have d6 := H5.out.2.2.1.below hb6 H5.out.2.2.1.lt
        have H6 := Lib.hid (And.intro hb6' (And.intro s6 (And.intro q6 (And.intro z6 d6))))
        clear hb6 s6 q6 hb6' z6 d6
        go_wp2_with (fail)
        rename_i K0 hK0
        have HC : RowKit.Hid (∀ W, Below W6.heap.size W6 W → (W.cell? ⟨w5.heap.size, 0, none⟩ = some (.string n) ∧ W.cell? ⟨w5.heap.size, 1, none⟩ = some (.int .u16 t) ∧ W.cell? ⟨w5.heap.size, 2, none⟩ = some (.int .u32 l) ∧ W.cell? ⟨w5.heap.size, 3, none⟩ = some (.slice Ad ds.length cd)) ∧ (W.cell? ⟨w5.heap.size + 1, 0, none⟩ = some (.string n) ∧ W.cell? ⟨w5.heap.size + 1, 1, none⟩ = some (.int .u16 t) ∧ W.cell? ⟨w5.heap.size + 1, 2, none⟩ = some (.int .u16 1)) ∧ W.cell? ⟨w.heap.size, 0, none⟩ = some (.string z)) := Lib.hid (fun W hW => by
          have a := H6.out.2.1.below hW H6.out.2.1.lt
          have b := H6.out.2.2.1.below hW H6.out.2.2.1.lt
          have d := H6.out.2.2.2.1.below hW H6.out.2.2.2.1.lt
          exact ⟨⟨a.cell 0, a.cell 1, a.cell 2, a.cell 3⟩, ⟨b.cell 0, b.cell 1, b.cell 2⟩, d.cell 0⟩)
        have hK : SetK n t l ds := setK_of H5.out.1
        have hzz : z.size ≤ 1000 := HZ.out.hz
        have hnz : n.size ≤ 1000 := HX.out.2.2.2.1.1.1
        have HRE := Lib.hid (fun W (hW : Below W6.heap.size W6 W) => records_any n t l Ad ds cd W (by unfold maxLen; omega) (stab_got (H6.out.2.2.2.2.below hW H6.out.2.2.2.2.lt)) H5.out.1)
        have HOF := Lib.hid (fun (Al : Option Addr) (cl : Nat) W (hT : RTab W Al (recsR n t l ds)) => of_hit Al cl n z t l 1 ds W hT hK (by omega) H5.out.2.1)
        have HSY := Lib.hid (fun (Af : Option Addr) (cf : Nat) W (hW : Below W6.heap.size W6 W) (hs : Sl W 1 (.slice Af ds.length cf) ds.length (ds.map Value.string)) => says_any n t l l Af Ad ds cf cd W (by unfold maxLen; omega) (stab_got hs) (stab_got (H6.out.2.2.2.2.below hW H6.out.2.2.2.2.lt)) (fun d hd => by have := okD_len (hK.dat d hd); have := bsize d; omega) H5.out.1 H5.out.1)
        dsimp only [setV] at HRE HSY
        clear hK hnz hzz
        have hC : Below W6.heap.size W6 W6.drew := (Below.refl _ _).drew
        refine wp_region_class (fun W => Below W6.heap.size W6 W) (by kernel_rfl) ?_
        refine wpAnyP_take (i := 0) (v := (.agg #[.string n, .int .u16 t, .int .u32 l, .slice Ad ds.length cd])) rfl (by kernel_rfl) (by kernel_rfl) (by kernel_rfl) (fun _ _ _ h => h) ?_ ⟨Or.inl ⟨by rfl, ?_⟩⟩ ?_
        · exact hC
        · intro W hW; obtain ⟨⟨c0, c1, c2, c3⟩, ⟨b0, b1, b2⟩, z0⟩ := HC.out W hW; go_simp
        refine wpAnyP_take (i := 3) (v := (.agg #[.string n, .int .u16 t, .int .u16 1])) rfl (by kernel_rfl) (by kernel_rfl) (by kernel_rfl) (fun _ _ _ h => h) ?_ ⟨Or.inl ⟨by rfl, ?_⟩⟩ ?_
        · exact hC
        · intro W hW; obtain ⟨⟨c0, c1, c2, c3⟩, ⟨b0, b1, b2⟩, z0⟩ := HC.out W hW; go_simp
        refine wpAnyP_take (i := 4) (v := (.pointer (some ⟨w.heap.size, 0, none⟩))) rfl (by kernel_rfl) (by kernel_rfl) (by kernel_rfl) (fun _ _ _ h => h) ?_ ⟨Or.inl ⟨by rfl, ?_⟩⟩ ?_
        · exact hC
        · intro W hW; obtain ⟨⟨c0, c1, c2, c3⟩, ⟨b0, b1, b2⟩, z0⟩ := HC.out W hW; go_simp
        refine wpAnyP_take (i := 5) (v := (.string z)) rfl (by kernel_rfl) (by kernel_rfl) (by kernel_rfl) (fun _ _ _ h => h) ?_ ⟨Or.inl ⟨by rfl, ?_⟩⟩ ?_
        · exact hC
        · intro W hW; obtain ⟨⟨c0, c1, c2, c3⟩, ⟨b0, b1, b2⟩, z0⟩ := HC.out W hW; go_simp
        refine wpAnyP_ready (rs := [1, 7]) (by kernel_rfl) (by simp) ?_
        refine AllReadyP.cons rfl (fun K hK => ?_) (AllReadyP.cons rfl (fun K hK => ?_) AllReadyP.nil)
        · go_simp
          refine (HRE.out _ hC).mono ?_
          rintro e V1 ⟨Al, cl, rfl, hsl, hol, hbl⟩
          have hC1 : Below W6.heap.size W6 V1 := hC.trans (hbl.mono hC.size)
          rw [recsR_len] at *
          have hRT : RTab V1 Al (recsR n t l ds) := rtab_got (c := cl) (by rw [recsR_len]; exact hsl)

          refine hK _ _ hC1 ?_
          clear hK K
          refine wpAnyP_take (i := 2) (v := (.agg #[.int .u16 0, .int .u16 0, .slice none 0 0, .slice Al ds.length cl, .slice none 0 0, .slice none 0 0])) rfl (by kernel_rfl) (by kernel_rfl) (by kernel_rfl) (fun _ _ _ h => h) ?_ ⟨Or.inl ⟨by rfl, ?_⟩⟩ ?_
          · exact hC1
          · intro W hW; obtain ⟨⟨c0, c1, c2, c3⟩, ⟨b0, b1, b2⟩, z0⟩ := HC.out W hW; go_simp
          refine wpAnyP_ready (rs := [6, 7]) (by kernel_rfl) (by simp) ?_
          refine AllReadyP.cons rfl (fun K hK => ?_) (AllReadyP.cons rfl (fun K hK => ?_) AllReadyP.nil)
          · go_simp
            refine (HOF.out Al cl _ hRT).mono ?_
            rintro e V2 ⟨Af, cf, rfl, hs7, hof, hbf⟩
            dsimp only [ResV]
            have hC2 : Below W6.heap.size W6 V2 := hC1.trans (hbf.mono hC1.size)

            refine hK _ _ hC2 ?_
            clear hK K
            refine wpAnyP_ready (rs := [7]) (by kernel_rfl) (by simp) ?_
            refine AllReadyP.cons rfl (fun K hK => ?_) AllReadyP.nil
            go_simp
            refine hK _ _ (hC2.alloc hC2.size _) ?_
            clear hK K
            refine wpAnyP_ready (rs := [8]) (by kernel_rfl) (by simp) ?_
            refine AllReadyP.cons rfl (fun K hK => ?_) AllReadyP.nil
            go_simp
            have hgr : Blk (V2.alloc (.cells #[.int .u8 1, .slice none 0 0, .string n, .int .u16 t, .int .u32 l, .slice Af ds.length cf, .string n, .int .u32 0] 44)) V2.heap.size 44 #[.int .u8 1, .slice none 0 0, .string n, .int .u16 t, .int .u32 l, .slice Af ds.length cf, .string n, .int .u32 0] := Blk.new _ _ _
            have hb7 : Below W6.heap.size W6 (V2.alloc (.cells #[.int .u8 1, .slice none 0 0, .string n, .int .u16 t, .int .u32 l, .slice Af ds.length cf, .string n, .int .u32 0] 44)) := hC2.alloc hC2.size _
            have hs7 := hs7.alloc (.cells #[.int .u8 1, .slice none 0 0, .string n, .int .u16 t, .int .u32 l, .slice Af ds.length cf, .string n, .int .u32 0] 44)
            obtain ⟨W7, hW7⟩ : ∃ W7, V2.alloc (.cells #[.int .u8 1, .slice none 0 0, .string n, .int .u16 t, .int .u32 l, .slice Af ds.length cf, .string n, .int .u32 0] 44) = W7 := ⟨_, rfl⟩
            rw [hW7] at hgr hb7 hs7 ⊢
            clear hW7
            refine hK _ _ hb7 ?_
            clear hK K
            refine wpAnyP_done (by kernel_rfl) ?_ _
            refine hK0 _ _ ?_
            clear hK0
            have st7 := H6.out.2.1.below hb7 H6.out.2.1.lt
            have f0 := hgr.cell 0; have f1 := hgr.cell 1; have f2 := hgr.cell 2; have f3 := hgr.cell 3; have f4 := hgr.cell 4; have f5 := hgr.cell 5
            have s0 := st7.cell 0; have s1 := st7.cell 1; have s2 := st7.cell 2; have s3 := st7.cell 3
            have hgl := hgr.lt
            have hsl7 := st7.lt
            have HSS := Lib.hid (HSY.out Af cf W7 hb7 hs7)
            have H7 := Lib.hid (And.intro hb7 hgr)
            clear hb7 hgr hs7 st7
            go_wp2_with (fail)
            with_reducible refine HSS.out.mono ?_
            rintro e w8 ⟨rfl, hb⟩
            have hg8 := H7.out.2.below hb H7.out.2.lt
            have H8 := Lib.hid (H6.out.1.trans ((H7.out.1.trans (hb.mono H7.out.1.size)).mono H6.out.1.size))
            clear f0 f1 f2 f3 f4 f5 s0 s1 s2 s3 hb
            have f1 := hg8.cell 1
            clear hg8
            go_wp2_with (fail)
            go_roundg (xs.length - (k + 1))
            case measure => have := hg.out; have := HX.out.1; omega
            case rel => exact ⟨k + 1, by go_num, (show xs.length - (k + 1) + (k + 1) = xs.length by have := HX.out.1; omega), H8.out⟩
          · go_simp
            obtain ⟨VZ, hVZ⟩ : ∃ VZ, V1.alloc (.cells #[.int .u8 0, .slice none 0 0, .string ⟨#[]⟩, .int .u16 0, .int .u32 0, .slice none 0 0, .string ⟨#[]⟩, .int .u32 0] 44) = VZ := ⟨_, rfl⟩
            have hVb : Below V1.heap.size V1 VZ := by rw [← hVZ]; exact (Below.refl _ _).alloc (Nat.le_refl _) _
            have hgz : Blk VZ V1.heap.size 44 #[.int .u8 0, .slice none 0 0, .string ⟨#[]⟩, .int .u16 0, .int .u32 0, .slice none 0 0, .string ⟨#[]⟩, .int .u32 0] := by rw [← hVZ]; exact Blk.new _ _ _
            rw [hVZ]
            clear hVZ
            have hCZ : Below W6.heap.size W6 VZ := hC1.trans (hVb.mono hC1.size)
            refine hK _ _ hCZ ?_
            clear hK K
            refine wpAnyP_ready (rs := [6]) (by kernel_rfl) (by simp) ?_
            refine AllReadyP.cons rfl (fun K hK => ?_) AllReadyP.nil
            go_simp
            refine (HOF.out Al cl _ (hRT.below hVb)).mono ?_
            rintro e V2 ⟨Af, cf, rfl, hs7, hof, hbf⟩
            dsimp only [ResV]
            have hC2 : Below W6.heap.size W6 V2 := hCZ.trans (hbf.mono hCZ.size)
            have hgl1 := hgz.lt
            have hgz := hgz.below hbf hgz.lt
            refine hK _ _ hC2 ?_
            clear hK K
            have j0 := hgz.cell 0
            have k0 := hgz.frozen 0
            have j1 := hgz.cell 1
            have k1 := hgz.frozen 1
            have j2 := hgz.cell 2
            have k2 := hgz.frozen 2
            have j3 := hgz.cell 3
            have k3 := hgz.frozen 3
            have j4 := hgz.cell 4
            have k4 := hgz.frozen 4
            have j5 := hgz.cell 5
            have k5 := hgz.frozen 5
            have j6 := hgz.cell 6
            have k6 := hgz.frozen 6
            have j7 := hgz.cell 7
            have k7 := hgz.frozen 7
            have hgzl := hgz.lt
            refine wpAnyP_ready (rs := [8]) (by kernel_rfl) (by simp) ?_
            refine AllReadyP.cons rfl (fun K hK => ?_) AllReadyP.nil
            go_simp
            obtain ⟨hgr, hb7, hsk⟩ := store8 hgz hC2 hC1.size (.int .u8 1) (.slice none 0 0) (.string n) (.int .u16 t) (.int .u32 l) (.slice Af ds.length cf) (.string n) (.int .u32 0)
            have hs7 := hsk hs7 (fun g hg => by have := hof g hg; omega)
            clear hsk j0 k0 j1 k1 j2 k2 j3 k3 j4 k4 j5 k5 j6 k6 j7 k7 hgz hgzl
            obtain ⟨W7, hW7⟩ : ∃ W7, ((((((((V2.setCell ⟨V1.heap.size, 0, none⟩ (.int .u8 1)).setCell ⟨V1.heap.size, 1, none⟩ (.slice none 0 0)).setCell ⟨V1.heap.size, 2, none⟩ (.string n)).setCell ⟨V1.heap.size, 3, none⟩ (.int .u16 t)).setCell ⟨V1.heap.size, 4, none⟩ (.int .u32 l)).setCell ⟨V1.heap.size, 5, none⟩ (.slice Af ds.length cf)).setCell ⟨V1.heap.size, 6, none⟩ (.string n)).setCell ⟨V1.heap.size, 7, none⟩ (.int .u32 0)) = W7 := ⟨_, rfl⟩
            rw [hW7] at hgr hb7 hs7 ⊢
            clear hW7
            refine hK _ _ hb7 ?_
            clear hK K
            refine wpAnyP_done (by kernel_rfl) ?_ _
            refine hK0 _ _ ?_
            clear hK0
            have st7 := H6.out.2.1.below hb7 H6.out.2.1.lt
            have f0 := hgr.cell 0; have f1 := hgr.cell 1; have f2 := hgr.cell 2; have f3 := hgr.cell 3; have f4 := hgr.cell 4; have f5 := hgr.cell 5
            have s0 := st7.cell 0; have s1 := st7.cell 1; have s2 := st7.cell 2; have s3 := st7.cell 3
            have hgl := hgr.lt
            have hsl7 := st7.lt
            have HSS := Lib.hid (HSY.out Af cf W7 hb7 hs7)
            have H7 := Lib.hid (And.intro hb7 hgr)
            clear hb7 hgr hs7 st7
            go_wp2_with (fail)
            with_reducible refine HSS.out.mono ?_
            rintro e w8 ⟨rfl, hb⟩
            have hg8 := H7.out.2.below hb H7.out.2.lt
            have H8 := Lib.hid (H6.out.1.trans ((H7.out.1.trans (hb.mono H7.out.1.size)).mono H6.out.1.size))
            clear f0 f1 f2 f3 f4 f5 s0 s1 s2 s3 hb
            have f1 := hg8.cell 1
            clear hg8
            go_wp2_with (fail)
            go_roundg (xs.length - (k + 1))
            case measure => have := hg.out; have := HX.out.1; omega
            case rel => exact ⟨k + 1, by go_num, (show xs.length - (k + 1) + (k + 1) = xs.length by have := HX.out.1; omega), H8.out⟩
        · go_simp
          obtain ⟨VZ, hVZ⟩ : ∃ VZ, (W6.alloc (.cells #[.int .u8 0, .slice none 0 0, .string ⟨#[]⟩, .int .u16 0, .int .u32 0, .slice none 0 0, .string ⟨#[]⟩, .int .u32 0] 44)).drew = VZ := ⟨_, rfl⟩
          have hCZ : Below W6.heap.size W6 VZ := by rw [← hVZ]; exact ((Below.refl _ _).alloc (Nat.le_refl _) _).drew
          have hgz : Blk VZ W6.heap.size 44 #[.int .u8 0, .slice none 0 0, .string ⟨#[]⟩, .int .u16 0, .int .u32 0, .slice none 0 0, .string ⟨#[]⟩, .int .u32 0] := by rw [← hVZ]; exact Blk.new _ _ _
          rw [hVZ]
          clear hVZ
          refine hK _ _ hCZ ?_
          clear hK K
          refine wpAnyP_ready (rs := [1]) (by kernel_rfl) (by simp) ?_
          refine AllReadyP.cons rfl (fun K hK => ?_) AllReadyP.nil
          go_simp
          refine (HRE.out _ hCZ).mono ?_
          rintro e V1 ⟨Al, cl, rfl, hsl, hol, hbl⟩
          have hC1 : Below W6.heap.size W6 V1 := hCZ.trans (hbl.mono hCZ.size)
          rw [recsR_len] at *
          have hRT : RTab V1 Al (recsR n t l ds) := rtab_got (c := cl) (by rw [recsR_len]; exact hsl)
          have hgz := hgz.below hbl hgz.lt
          refine hK _ _ hC1 ?_
          clear hK K
          refine wpAnyP_take (i := 2) (v := (.agg #[.int .u16 0, .int .u16 0, .slice none 0 0, .slice Al ds.length cl, .slice none 0 0, .slice none 0 0])) rfl (by kernel_rfl) (by kernel_rfl) (by kernel_rfl) (fun _ _ _ h => h) ?_ ⟨Or.inl ⟨by rfl, ?_⟩⟩ ?_
          · exact hC1
          · intro W hW; obtain ⟨⟨c0, c1, c2, c3⟩, ⟨b0, b1, b2⟩, z0⟩ := HC.out W hW; go_simp
          refine wpAnyP_ready (rs := [6]) (by kernel_rfl) (by simp) ?_
          refine AllReadyP.cons rfl (fun K hK => ?_) AllReadyP.nil
          go_simp
          refine (HOF.out Al cl _ hRT).mono ?_
          rintro e V2 ⟨Af, cf, rfl, hs7, hof, hbf⟩
          dsimp only [ResV]
          have hC2 : Below W6.heap.size W6 V2 := hC1.trans (hbf.mono hC1.size)
          have hgl1 := hgz.lt
          have hgz := hgz.below hbf hgz.lt
          refine hK _ _ hC2 ?_
          clear hK K
          have j0 := hgz.cell 0
          have k0 := hgz.frozen 0
          have j1 := hgz.cell 1
          have k1 := hgz.frozen 1
          have j2 := hgz.cell 2
          have k2 := hgz.frozen 2
          have j3 := hgz.cell 3
          have k3 := hgz.frozen 3
          have j4 := hgz.cell 4
          have k4 := hgz.frozen 4
          have j5 := hgz.cell 5
          have k5 := hgz.frozen 5
          have j6 := hgz.cell 6
          have k6 := hgz.frozen 6
          have j7 := hgz.cell 7
          have k7 := hgz.frozen 7
          have hgzl := hgz.lt
          refine wpAnyP_ready (rs := [8]) (by kernel_rfl) (by simp) ?_
          refine AllReadyP.cons rfl (fun K hK => ?_) AllReadyP.nil
          go_simp
          obtain ⟨hgr, hb7, hsk⟩ := store8 hgz hC2 (Nat.le_refl _) (.int .u8 1) (.slice none 0 0) (.string n) (.int .u16 t) (.int .u32 l) (.slice Af ds.length cf) (.string n) (.int .u32 0)
          have hs7 := hsk hs7 (fun g hg => by have := hof g hg; omega)
          clear hsk j0 k0 j1 k1 j2 k2 j3 k3 j4 k4 j5 k5 j6 k6 j7 k7 hgz hgzl
          obtain ⟨W7, hW7⟩ : ∃ W7, ((((((((V2.setCell ⟨W6.heap.size, 0, none⟩ (.int .u8 1)).setCell ⟨W6.heap.size, 1, none⟩ (.slice none 0 0)).setCell ⟨W6.heap.size, 2, none⟩ (.string n)).setCell ⟨W6.heap.size, 3, none⟩ (.int .u16 t)).setCell ⟨W6.heap.size, 4, none⟩ (.int .u32 l)).setCell ⟨W6.heap.size, 5, none⟩ (.slice Af ds.length cf)).setCell ⟨W6.heap.size, 6, none⟩ (.string n)).setCell ⟨W6.heap.size, 7, none⟩ (.int .u32 0)) = W7 := ⟨_, rfl⟩
          rw [hW7] at hgr hb7 hs7 ⊢
          clear hW7
          refine hK _ _ hb7 ?_
          clear hK K
          refine wpAnyP_done (by kernel_rfl) ?_ _
          refine hK0 _ _ ?_
          clear hK0
          have st7 := H6.out.2.1.below hb7 H6.out.2.1.lt
          have f0 := hgr.cell 0; have f1 := hgr.cell 1; have f2 := hgr.cell 2; have f3 := hgr.cell 3; have f4 := hgr.cell 4; have f5 := hgr.cell 5
          have s0 := st7.cell 0; have s1 := st7.cell 1; have s2 := st7.cell 2; have s3 := st7.cell 3
          have hgl := hgr.lt
          have hsl7 := st7.lt
          have HSS := Lib.hid (HSY.out Af cf W7 hb7 hs7)
          have H7 := Lib.hid (And.intro hb7 hgr)
          clear hb7 hgr hs7 st7
          go_wp2_with (fail)
          with_reducible refine HSS.out.mono ?_
          rintro e w8 ⟨rfl, hb⟩
          have hg8 := H7.out.2.below hb H7.out.2.lt
          have H8 := Lib.hid (H6.out.1.trans ((H7.out.1.trans (hb.mono H7.out.1.size)).mono H6.out.1.size))
          clear f0 f1 f2 f3 f4 f5 s0 s1 s2 s3 hb
          have f1 := hg8.cell 1
          clear hg8
          go_wp2_with (fail)
          go_roundg (xs.length - (k + 1))
          case measure => have := hg.out; have := HX.out.1; omega
          case rel => exact ⟨k + 1, by go_num, (show xs.length - (k + 1) + (k + 1) = xs.length by have := HX.out.1; omega), H8.out⟩
      · have hltI : ¬ (k : Int) < (xs.length : Int) := by omega
        obtain ⟨L, hL⟩ : ∃ L, cutsN z.data.toList xs = L := ⟨_, rfl⟩
        have hLl : L.length ≤ 60 := by have := cuts_len z.data.toList xs; rw [hL] at this; have := HZ.out.len; omega
        have HCU := Lib.hid (zCuts_any z A c xs wr (HZ.out.low hB.out) HZB.out)
        rw [hL] at HCU
        have kz := H1.out.2.1.below hB.out H1.out.2.1.lt
        have y0 := kz.cell 0; have y1 := kz.cell 1
        have HL := Lib.hid hL
        clear kz hlt hL
        go_wp2_with (fail)
        with_reducible refine HCU.out.mono ?_
        rintro e wc ⟨Ac, cc, rfl, hsc, hoc, hbc⟩
        have HWC := Lib.hid (And.intro (hB.out.trans (hbc.mono hB.out.size)) hsc)
        clear hsc hoc hbc HCU y0 y1
        go_wp2_with (fail)
        go_loopg [10, 12, 75] L.length (fun gg v10 v12 v75 wr => ∃ k : Nat, v75 = .int .i64 (k : Int) ∧ Aside (gg + k = L.length) ∧ Aside (Below wc.heap.size wc wr))
        case atStart => exact ⟨0, rfl, rfl, Below.refl _ _⟩
        case round =>
          clear hB hg hltI
          obtain ⟨k, rfl, hg, hB⟩ := hrel
          by_cases hlt : k < L.length
          · have hltI : (k : Int) < (L.length : Int) := by omega
            obtain ⟨x, hx⟩ : ∃ x, L[k]? = some x := ⟨_, List.getElem?_eq_getElem hlt⟩
            have hxm := List.mem_of_getElem? hx
            have hcm : x ∈ cutsN z.data.toList xs := by rw [HL.out]; exact hxm
            have hck := cutK_of HZB.out hcm
            obtain ⟨r, hr, ht, hrn⟩ := hck.rec_
            obtain ⟨b', off', hA', hbl, hcs⟩ := sl_tt (HWC.out.2.below hB.out HWC.out.2.lt) (by rw [strs_len]; omega)
            have d0 : wr.cell? ⟨b', off' + k, none⟩ = some (.string ⟨x.toArray⟩) := hcs k _ (strs_get hx)
            subst hA'
            obtain ⟨n, hn⟩ : ∃ n : ByteArray, (⟨x.toArray⟩ : ByteArray) = n := ⟨_, rfl⟩
            have hnd : n.data.toList = x := by rw [← hn]
            rw [hn] at d0
            rw [← hnd] at hck hcm hrn
            have hnr : n = r.n := by
              have h1 : n.data.toList = r.n.data.toList := hrn.symm
              cases n; cases hq : r.n
              rw [hq] at h1
              simpa using h1
            obtain ⟨hnm, hne, hmm⟩ := zone_near HZB.out hr n 2 hnr ht.symm
            have hn1 : n.size ≤ 1000 := by rw [hnr]; exact (HZ.out.ok r hr).1.1
            have hbW : Below W1.heap.size W1 wr := HWC.out.1.trans (hB.out.mono HWC.out.1.size)
            have hdp := cut_depth hck
            have HCUT := Lib.hid (zCut_any z A c xs n wr (HZ.out.low hbW) hn1 HZB.out hnm hne hcm hck.self (fun y hy => ⟨by
              obtain ⟨r', hr', _, hrn', _⟩ := cuts_mem hy
              have h1 := (HZ.out.ok r' hr').1.1
              have h2 := bsize r'.n
              rw [← hrn']
              show r'.n.data.toList.length ≤ 1000
              omega, hck.only y hy⟩))
            have hF1 : ∀ (w : World) (e : Ending) (w' : World), FoundP n 2 (rightL (xs.filter (nearR 2 n))) w e w' → ∃ (l : Int) (ds : List ByteArray), setOk n 2 l ds = true ∧ 0 ≤ l ∧ GotP n 2 l ds w e w' := (fun _ _ _ h => got_first h hnm hne (fun r hr => ⟨(HZ.out.ok r (hmm r hr).1).2.2.2.2.1, (hmm r hr).2.1⟩) (fun r hr => (hmm r hr).2.2))
            have HF1 := Lib.hid hF1
            have hsame : sameB n.data.toList n.data.toList = true := by unfold sameB; rw [hnm]; simp
            have HSA := Lib.hid (fun W => Same_any n n (by omega) (by omega) W)
            rw [hsame] at HSA
            have kz := H1.out.2.1.below hbW H1.out.2.1.lt
            have y0 := kz.cell 0; have y1 := kz.cell 1
            have HX := Lib.hid (And.intro hlt (And.intro hbW (And.intro hn1 hdp)))
            clear hF1 hlt hxm hx hcm hck hr ht hrn hcs hn hnd hnr hnm hne hmm hn1 hbW hdp hsame kz
            go_wp2_with (fail)
            with_reducible refine HCUT.out.mono ?_
            intro e w5 hf
            obtain ⟨l, ds, hok, hl0, Ad, cd, rfl, hs5, ho5, hb5⟩ := HF1.out _ _ _ hf
            have hb5' := HX.out.2.1.trans (hb5.mono HX.out.2.1.size)
            have H5 := Lib.hid (And.intro hok (And.intro hl0 (And.intro hs5 (And.intro ho5 (And.intro hb5' hb5)))))
            clear hok hl0 hs5 ho5 hb5 hb5' hf y0 y1 HCUT HF1 d0 hbl
            dsimp only [setV]
            go_upto_region 21 with (fail)
            obtain ⟨W6, hW6⟩ : ∃ W6, (w5.alloc (.cells #[.string n, .int .u16 2, .int .u32 l, .slice Ad ds.length cd] 36)).alloc (.cells #[.string n, .int .u16 1, .int .u16 1] 40) = W6 := ⟨_, rfl⟩
            have hb6 : Below w5.heap.size w5 W6 := by rw [← hW6]; exact ((Below.refl _ _).alloc (Nat.le_refl _) _).alloc (by simp) _
            have s6 : Blk W6 w5.heap.size 36 #[.string n, .int .u16 2, .int .u32 l, .slice Ad ds.length cd] := by rw [← hW6]; exact (Blk.new _ _ _).alloc _
            have q6 : Blk W6 (w5.heap.size + 1) 40 #[.string n, .int .u16 1, .int .u16 1] := by rw [← hW6]; exact heap_alloc2_new w5 _ _
            rw [hW6]
            clear hW6
            have hb6' := H5.out.2.2.2.2.1.trans (hb6.mono H5.out.2.2.2.2.1.size)
            have z6 := H1.out.2.1.below hb6' H1.out.2.1.lt
            have d6 := H5.out.2.2.1.below hb6 H5.out.2.2.1.lt
            have hwc6 : Below wc.heap.size wc W6 := (hB.out.trans (H5.out.2.2.2.2.2.mono hB.out.size)).trans (hb6.mono (hB.out.trans (H5.out.2.2.2.2.2.mono hB.out.size)).size)
            have HW6 := Lib.hid (And.intro hwc6.size hwc6)
            clear hwc6
            have H6 := Lib.hid (And.intro hb6' (And.intro s6 (And.intro q6 (And.intro z6 d6))))
            clear hb6 s6 q6 hb6' z6 d6
            go_wp2_with (fail)
            rename_i K0 hK0
            have HC : RowKit.Hid (∀ W, Below W6.heap.size W6 W → (W.cell? ⟨w5.heap.size, 0, none⟩ = some (.string n) ∧ W.cell? ⟨w5.heap.size, 1, none⟩ = some (.int .u16 2) ∧ W.cell? ⟨w5.heap.size, 2, none⟩ = some (.int .u32 l) ∧ W.cell? ⟨w5.heap.size, 3, none⟩ = some (.slice Ad ds.length cd)) ∧ (W.cell? ⟨w5.heap.size + 1, 0, none⟩ = some (.string n) ∧ W.cell? ⟨w5.heap.size + 1, 1, none⟩ = some (.int .u16 1) ∧ W.cell? ⟨w5.heap.size + 1, 2, none⟩ = some (.int .u16 1)) ∧ W.cell? ⟨w.heap.size, 0, none⟩ = some (.string z)) := Lib.hid (fun W hW => by
              have a := H6.out.2.1.below hW H6.out.2.1.lt
              have b := H6.out.2.2.1.below hW H6.out.2.2.1.lt
              have d := H6.out.2.2.2.1.below hW H6.out.2.2.2.1.lt
              exact ⟨⟨a.cell 0, a.cell 1, a.cell 2, a.cell 3⟩, ⟨b.cell 0, b.cell 1, b.cell 2⟩, d.cell 0⟩)
            have hK : SetK n 2 l ds := setK_of H5.out.1
            have hzz : z.size ≤ 1000 := HZ.out.hz
            have hnz : n.size ≤ 1000 := HX.out.2.2.1
            have HRE := Lib.hid (fun W (hW : Below W6.heap.size W6 W) => records_any n 2 l Ad ds cd W (by unfold maxLen; omega) (stab_got (H6.out.2.2.2.2.below hW H6.out.2.2.2.2.lt)) H5.out.1)
            have HOF := Lib.hid (fun (Al : Option Addr) (cl : Nat) W (hT : RTab W Al (recsR n 2 l ds)) => of_refer Al cl n z l 1 ds W hT hK (by omega) (by omega) H5.out.2.1 HX.out.2.2.2)
            have HSY := Lib.hid (fun (Af : Option Addr) (cf : Nat) W (hW : Below W6.heap.size W6 W) (hs : Sl W 1 (.slice Af ds.length cf) ds.length (ds.map Value.string)) => says_any n 2 l l Af Ad ds cf cd W (by unfold maxLen; omega) (stab_got hs) (stab_got (H6.out.2.2.2.2.below hW H6.out.2.2.2.2.lt)) (fun d hd => by have := okD_len (hK.dat d hd); have := bsize d; omega) H5.out.1 H5.out.1)
            dsimp only [setV] at HRE HSY
            clear hK hnz hzz
            have hC : Below W6.heap.size W6 W6.drew := (Below.refl _ _).drew
            refine wp_region_class (fun W => Below W6.heap.size W6 W) (by kernel_rfl) ?_
            refine wpAnyP_take (i := 0) (v := (.agg #[.string n, .int .u16 2, .int .u32 l, .slice Ad ds.length cd])) rfl (by kernel_rfl) (by kernel_rfl) (by kernel_rfl) (fun _ _ _ h => h) ?_ ⟨Or.inl ⟨by rfl, ?_⟩⟩ ?_
            · exact hC
            · intro W hW; obtain ⟨⟨c0, c1, c2, c3⟩, ⟨b0, b1, b2⟩, z0⟩ := HC.out W hW; go_simp
            refine wpAnyP_take (i := 3) (v := (.agg #[.string n, .int .u16 1, .int .u16 1])) rfl (by kernel_rfl) (by kernel_rfl) (by kernel_rfl) (fun _ _ _ h => h) ?_ ⟨Or.inl ⟨by rfl, ?_⟩⟩ ?_
            · exact hC
            · intro W hW; obtain ⟨⟨c0, c1, c2, c3⟩, ⟨b0, b1, b2⟩, z0⟩ := HC.out W hW; go_simp
            refine wpAnyP_take (i := 4) (v := (.pointer (some ⟨w.heap.size, 0, none⟩))) rfl (by kernel_rfl) (by kernel_rfl) (by kernel_rfl) (fun _ _ _ h => h) ?_ ⟨Or.inl ⟨by rfl, ?_⟩⟩ ?_
            · exact hC
            · intro W hW; obtain ⟨⟨c0, c1, c2, c3⟩, ⟨b0, b1, b2⟩, z0⟩ := HC.out W hW; go_simp
            refine wpAnyP_take (i := 5) (v := (.string z)) rfl (by kernel_rfl) (by kernel_rfl) (by kernel_rfl) (fun _ _ _ h => h) ?_ ⟨Or.inl ⟨by rfl, ?_⟩⟩ ?_
            · exact hC
            · intro W hW; obtain ⟨⟨c0, c1, c2, c3⟩, ⟨b0, b1, b2⟩, z0⟩ := HC.out W hW; go_simp
            refine wpAnyP_ready (rs := [1, 7]) (by kernel_rfl) (by simp) ?_
            refine AllReadyP.cons rfl (fun K hK => ?_) (AllReadyP.cons rfl (fun K hK => ?_) AllReadyP.nil)
            · go_simp
              refine (HRE.out _ hC).mono ?_
              rintro e V1 ⟨Al, cl, rfl, hsl, hol, hbl⟩
              have hC1 : Below W6.heap.size W6 V1 := hC.trans (hbl.mono hC.size)
              rw [recsR_len] at *
              have hRT : RTab V1 Al (recsR n 2 l ds) := rtab_got (c := cl) (by rw [recsR_len]; exact hsl)

              refine hK _ _ hC1 ?_
              clear hK K
              refine wpAnyP_take (i := 2) (v := (.agg #[.int .u16 0, .int .u16 0, .slice none 0 0, .slice none 0 0, .slice Al ds.length cl, .slice none 0 0])) rfl (by kernel_rfl) (by kernel_rfl) (by kernel_rfl) (fun _ _ _ h => h) ?_ ⟨Or.inl ⟨by rfl, ?_⟩⟩ ?_
              · exact hC1
              · intro W hW; obtain ⟨⟨c0, c1, c2, c3⟩, ⟨b0, b1, b2⟩, z0⟩ := HC.out W hW; go_simp
              refine wpAnyP_ready (rs := [6, 7]) (by kernel_rfl) (by simp) ?_
              refine AllReadyP.cons rfl (fun K hK => ?_) (AllReadyP.cons rfl (fun K hK => ?_) AllReadyP.nil)
              · go_simp
                refine (HOF.out Al cl _ hRT).mono ?_
                rintro e V2 ⟨Af, cf, rfl, hs7, hof, hbf⟩
                dsimp only [ResV]
                have hC2 : Below W6.heap.size W6 V2 := hC1.trans (hbf.mono hC1.size)

                refine hK _ _ hC2 ?_
                clear hK K
                refine wpAnyP_ready (rs := [7]) (by kernel_rfl) (by simp) ?_
                refine AllReadyP.cons rfl (fun K hK => ?_) AllReadyP.nil
                go_simp
                refine hK _ _ (hC2.alloc hC2.size _) ?_
                clear hK K
                refine wpAnyP_ready (rs := [8]) (by kernel_rfl) (by simp) ?_
                refine AllReadyP.cons rfl (fun K hK => ?_) AllReadyP.nil
                go_simp
                have hgr : Blk (V2.alloc (.cells #[.int .u8 5, .slice none 0 0, .string n, .int .u16 2, .int .u32 l, .slice Af ds.length cf, .string n, .int .u32 0] 44)) V2.heap.size 44 #[.int .u8 5, .slice none 0 0, .string n, .int .u16 2, .int .u32 l, .slice Af ds.length cf, .string n, .int .u32 0] := Blk.new _ _ _
                have hb7 : Below W6.heap.size W6 (V2.alloc (.cells #[.int .u8 5, .slice none 0 0, .string n, .int .u16 2, .int .u32 l, .slice Af ds.length cf, .string n, .int .u32 0] 44)) := hC2.alloc hC2.size _
                have hs7 := hs7.alloc (.cells #[.int .u8 5, .slice none 0 0, .string n, .int .u16 2, .int .u32 l, .slice Af ds.length cf, .string n, .int .u32 0] 44)
                obtain ⟨W7, hW7⟩ : ∃ W7, V2.alloc (.cells #[.int .u8 5, .slice none 0 0, .string n, .int .u16 2, .int .u32 l, .slice Af ds.length cf, .string n, .int .u32 0] 44) = W7 := ⟨_, rfl⟩
                rw [hW7] at hgr hb7 hs7 ⊢
                clear hW7
                refine hK _ _ hb7 ?_
                clear hK K
                refine wpAnyP_done (by kernel_rfl) ?_ _
                refine hK0 _ _ ?_
                clear hK0
                have st7 := H6.out.2.1.below hb7 H6.out.2.1.lt
                have f0 := hgr.cell 0; have f6 := hgr.cell 6
                have hgl := hgr.lt
                have hsl7 := st7.lt
                have H7 := Lib.hid (And.intro hb7 (And.intro hgr (And.intro hs7 st7)))
                clear hb7 hgr hs7 st7
                go_wp2_with (fail)
                with_reducible refine (HSA.out _).mono ?_
                rintro e w8 ⟨rfl, hb⟩
                have hg8 := H7.out.2.1.below hb H7.out.2.1.lt
                have st8 := H7.out.2.2.2.below hb H7.out.2.2.2.lt
                have hb8 := H7.out.1.trans (hb.mono H7.out.1.size)
                have HSS := Lib.hid (HSY.out Af cf w8 hb8 (H7.out.2.2.1.below hb H7.out.2.2.1.lt))
                have H8 := Lib.hid hb8
                clear f0 f6 hb hb8
                have f2 := hg8.cell 2; have f3 := hg8.cell 3; have f4 := hg8.cell 4; have f5 := hg8.cell 5
                have s0 := st8.cell 0; have s1 := st8.cell 1; have s2 := st8.cell 2; have s3 := st8.cell 3
                clear hg8 st8
                go_wp2_with (fail)
                with_reducible refine HSS.out.mono ?_
                rintro e w9 ⟨rfl, hb⟩
                have hbc := H8.out.trans (hb.mono H8.out.size)
                clear f2 f3 f4 f5 s0 s1 s2 s3 hb
                have H9 := Lib.hid hbc
                clear hbc
                go_wp2_with (fail)
                go_roundg (L.length - (k + 1))
                case measure => have := hg.out; have := HX.out.1; omega
                case rel => exact ⟨k + 1, by go_num, (show L.length - (k + 1) + (k + 1) = L.length by have := HX.out.1; omega), HW6.out.2.trans (H9.out.mono HW6.out.1)⟩
              · go_simp
                obtain ⟨VZ, hVZ⟩ : ∃ VZ, V1.alloc (.cells #[.int .u8 0, .slice none 0 0, .string ⟨#[]⟩, .int .u16 0, .int .u32 0, .slice none 0 0, .string ⟨#[]⟩, .int .u32 0] 44) = VZ := ⟨_, rfl⟩
                have hVb : Below V1.heap.size V1 VZ := by rw [← hVZ]; exact (Below.refl _ _).alloc (Nat.le_refl _) _
                have hgz : Blk VZ V1.heap.size 44 #[.int .u8 0, .slice none 0 0, .string ⟨#[]⟩, .int .u16 0, .int .u32 0, .slice none 0 0, .string ⟨#[]⟩, .int .u32 0] := by rw [← hVZ]; exact Blk.new _ _ _
                rw [hVZ]
                clear hVZ
                have hCZ : Below W6.heap.size W6 VZ := hC1.trans (hVb.mono hC1.size)
                refine hK _ _ hCZ ?_
                clear hK K
                refine wpAnyP_ready (rs := [6]) (by kernel_rfl) (by simp) ?_
                refine AllReadyP.cons rfl (fun K hK => ?_) AllReadyP.nil
                go_simp
                refine (HOF.out Al cl _ (hRT.below hVb)).mono ?_
                rintro e V2 ⟨Af, cf, rfl, hs7, hof, hbf⟩
                dsimp only [ResV]
                have hC2 : Below W6.heap.size W6 V2 := hCZ.trans (hbf.mono hCZ.size)
                have hgl1 := hgz.lt
                have hgz := hgz.below hbf hgz.lt
                refine hK _ _ hC2 ?_
                clear hK K
                have j0 := hgz.cell 0
                have k0 := hgz.frozen 0
                have j1 := hgz.cell 1
                have k1 := hgz.frozen 1
                have j2 := hgz.cell 2
                have k2 := hgz.frozen 2
                have j3 := hgz.cell 3
                have k3 := hgz.frozen 3
                have j4 := hgz.cell 4
                have k4 := hgz.frozen 4
                have j5 := hgz.cell 5
                have k5 := hgz.frozen 5
                have j6 := hgz.cell 6
                have k6 := hgz.frozen 6
                have j7 := hgz.cell 7
                have k7 := hgz.frozen 7
                have hgzl := hgz.lt
                refine wpAnyP_ready (rs := [8]) (by kernel_rfl) (by simp) ?_
                refine AllReadyP.cons rfl (fun K hK => ?_) AllReadyP.nil
                go_simp
                obtain ⟨hgr, hb7, hsk⟩ := store8 hgz hC2 hC1.size (.int .u8 5) (.slice none 0 0) (.string n) (.int .u16 2) (.int .u32 l) (.slice Af ds.length cf) (.string n) (.int .u32 0)
                have hs7 := hsk hs7 (fun g hg => by have := hof g hg; omega)
                clear hsk j0 k0 j1 k1 j2 k2 j3 k3 j4 k4 j5 k5 j6 k6 j7 k7 hgz hgzl
                obtain ⟨W7, hW7⟩ : ∃ W7, ((((((((V2.setCell ⟨V1.heap.size, 0, none⟩ (.int .u8 5)).setCell ⟨V1.heap.size, 1, none⟩ (.slice none 0 0)).setCell ⟨V1.heap.size, 2, none⟩ (.string n)).setCell ⟨V1.heap.size, 3, none⟩ (.int .u16 2)).setCell ⟨V1.heap.size, 4, none⟩ (.int .u32 l)).setCell ⟨V1.heap.size, 5, none⟩ (.slice Af ds.length cf)).setCell ⟨V1.heap.size, 6, none⟩ (.string n)).setCell ⟨V1.heap.size, 7, none⟩ (.int .u32 0)) = W7 := ⟨_, rfl⟩
                rw [hW7] at hgr hb7 hs7 ⊢
                clear hW7
                refine hK _ _ hb7 ?_
                clear hK K
                refine wpAnyP_done (by kernel_rfl) ?_ _
                refine hK0 _ _ ?_
                clear hK0
                have st7 := H6.out.2.1.below hb7 H6.out.2.1.lt
                have f0 := hgr.cell 0; have f6 := hgr.cell 6
                have hgl := hgr.lt
                have hsl7 := st7.lt
                have H7 := Lib.hid (And.intro hb7 (And.intro hgr (And.intro hs7 st7)))
                clear hb7 hgr hs7 st7
                go_wp2_with (fail)
                with_reducible refine (HSA.out _).mono ?_
                rintro e w8 ⟨rfl, hb⟩
                have hg8 := H7.out.2.1.below hb H7.out.2.1.lt
                have st8 := H7.out.2.2.2.below hb H7.out.2.2.2.lt
                have hb8 := H7.out.1.trans (hb.mono H7.out.1.size)
                have HSS := Lib.hid (HSY.out Af cf w8 hb8 (H7.out.2.2.1.below hb H7.out.2.2.1.lt))
                have H8 := Lib.hid hb8
                clear f0 f6 hb hb8
                have f2 := hg8.cell 2; have f3 := hg8.cell 3; have f4 := hg8.cell 4; have f5 := hg8.cell 5
                have s0 := st8.cell 0; have s1 := st8.cell 1; have s2 := st8.cell 2; have s3 := st8.cell 3
                clear hg8 st8
                go_wp2_with (fail)
                with_reducible refine HSS.out.mono ?_
                rintro e w9 ⟨rfl, hb⟩
                have hbc := H8.out.trans (hb.mono H8.out.size)
                clear f2 f3 f4 f5 s0 s1 s2 s3 hb
                have H9 := Lib.hid hbc
                clear hbc
                go_wp2_with (fail)
                go_roundg (L.length - (k + 1))
                case measure => have := hg.out; have := HX.out.1; omega
                case rel => exact ⟨k + 1, by go_num, (show L.length - (k + 1) + (k + 1) = L.length by have := HX.out.1; omega), HW6.out.2.trans (H9.out.mono HW6.out.1)⟩
            · go_simp
              obtain ⟨VZ, hVZ⟩ : ∃ VZ, (W6.alloc (.cells #[.int .u8 0, .slice none 0 0, .string ⟨#[]⟩, .int .u16 0, .int .u32 0, .slice none 0 0, .string ⟨#[]⟩, .int .u32 0] 44)).drew = VZ := ⟨_, rfl⟩
              have hCZ : Below W6.heap.size W6 VZ := by rw [← hVZ]; exact ((Below.refl _ _).alloc (Nat.le_refl _) _).drew
              have hgz : Blk VZ W6.heap.size 44 #[.int .u8 0, .slice none 0 0, .string ⟨#[]⟩, .int .u16 0, .int .u32 0, .slice none 0 0, .string ⟨#[]⟩, .int .u32 0] := by rw [← hVZ]; exact Blk.new _ _ _
              rw [hVZ]
              clear hVZ
              refine hK _ _ hCZ ?_
              clear hK K
              refine wpAnyP_ready (rs := [1]) (by kernel_rfl) (by simp) ?_
              refine AllReadyP.cons rfl (fun K hK => ?_) AllReadyP.nil
              go_simp
              refine (HRE.out _ hCZ).mono ?_
              rintro e V1 ⟨Al, cl, rfl, hsl, hol, hbl⟩
              have hC1 : Below W6.heap.size W6 V1 := hCZ.trans (hbl.mono hCZ.size)
              rw [recsR_len] at *
              have hRT : RTab V1 Al (recsR n 2 l ds) := rtab_got (c := cl) (by rw [recsR_len]; exact hsl)
              have hgz := hgz.below hbl hgz.lt
              refine hK _ _ hC1 ?_
              clear hK K
              refine wpAnyP_take (i := 2) (v := (.agg #[.int .u16 0, .int .u16 0, .slice none 0 0, .slice none 0 0, .slice Al ds.length cl, .slice none 0 0])) rfl (by kernel_rfl) (by kernel_rfl) (by kernel_rfl) (fun _ _ _ h => h) ?_ ⟨Or.inl ⟨by rfl, ?_⟩⟩ ?_
              · exact hC1
              · intro W hW; obtain ⟨⟨c0, c1, c2, c3⟩, ⟨b0, b1, b2⟩, z0⟩ := HC.out W hW; go_simp
              refine wpAnyP_ready (rs := [6]) (by kernel_rfl) (by simp) ?_
              refine AllReadyP.cons rfl (fun K hK => ?_) AllReadyP.nil
              go_simp
              refine (HOF.out Al cl _ hRT).mono ?_
              rintro e V2 ⟨Af, cf, rfl, hs7, hof, hbf⟩
              dsimp only [ResV]
              have hC2 : Below W6.heap.size W6 V2 := hC1.trans (hbf.mono hC1.size)
              have hgl1 := hgz.lt
              have hgz := hgz.below hbf hgz.lt
              refine hK _ _ hC2 ?_
              clear hK K
              have j0 := hgz.cell 0
              have k0 := hgz.frozen 0
              have j1 := hgz.cell 1
              have k1 := hgz.frozen 1
              have j2 := hgz.cell 2
              have k2 := hgz.frozen 2
              have j3 := hgz.cell 3
              have k3 := hgz.frozen 3
              have j4 := hgz.cell 4
              have k4 := hgz.frozen 4
              have j5 := hgz.cell 5
              have k5 := hgz.frozen 5
              have j6 := hgz.cell 6
              have k6 := hgz.frozen 6
              have j7 := hgz.cell 7
              have k7 := hgz.frozen 7
              have hgzl := hgz.lt
              refine wpAnyP_ready (rs := [8]) (by kernel_rfl) (by simp) ?_
              refine AllReadyP.cons rfl (fun K hK => ?_) AllReadyP.nil
              go_simp
              obtain ⟨hgr, hb7, hsk⟩ := store8 hgz hC2 (Nat.le_refl _) (.int .u8 5) (.slice none 0 0) (.string n) (.int .u16 2) (.int .u32 l) (.slice Af ds.length cf) (.string n) (.int .u32 0)
              have hs7 := hsk hs7 (fun g hg => by have := hof g hg; omega)
              clear hsk j0 k0 j1 k1 j2 k2 j3 k3 j4 k4 j5 k5 j6 k6 j7 k7 hgz hgzl
              obtain ⟨W7, hW7⟩ : ∃ W7, ((((((((V2.setCell ⟨W6.heap.size, 0, none⟩ (.int .u8 5)).setCell ⟨W6.heap.size, 1, none⟩ (.slice none 0 0)).setCell ⟨W6.heap.size, 2, none⟩ (.string n)).setCell ⟨W6.heap.size, 3, none⟩ (.int .u16 2)).setCell ⟨W6.heap.size, 4, none⟩ (.int .u32 l)).setCell ⟨W6.heap.size, 5, none⟩ (.slice Af ds.length cf)).setCell ⟨W6.heap.size, 6, none⟩ (.string n)).setCell ⟨W6.heap.size, 7, none⟩ (.int .u32 0)) = W7 := ⟨_, rfl⟩
              rw [hW7] at hgr hb7 hs7 ⊢
              clear hW7
              refine hK _ _ hb7 ?_
              clear hK K
              refine wpAnyP_done (by kernel_rfl) ?_ _
              refine hK0 _ _ ?_
              clear hK0
              have st7 := H6.out.2.1.below hb7 H6.out.2.1.lt
              have f0 := hgr.cell 0; have f6 := hgr.cell 6
              have hgl := hgr.lt
              have hsl7 := st7.lt
              have H7 := Lib.hid (And.intro hb7 (And.intro hgr (And.intro hs7 st7)))
              clear hb7 hgr hs7 st7
              go_wp2_with (fail)
              with_reducible refine (HSA.out _).mono ?_
              rintro e w8 ⟨rfl, hb⟩
              have hg8 := H7.out.2.1.below hb H7.out.2.1.lt
              have st8 := H7.out.2.2.2.below hb H7.out.2.2.2.lt
              have hb8 := H7.out.1.trans (hb.mono H7.out.1.size)
              have HSS := Lib.hid (HSY.out Af cf w8 hb8 (H7.out.2.2.1.below hb H7.out.2.2.1.lt))
              have H8 := Lib.hid hb8
              clear f0 f6 hb hb8
              have f2 := hg8.cell 2; have f3 := hg8.cell 3; have f4 := hg8.cell 4; have f5 := hg8.cell 5
              have s0 := st8.cell 0; have s1 := st8.cell 1; have s2 := st8.cell 2; have s3 := st8.cell 3
              clear hg8 st8
              go_wp2_with (fail)
              with_reducible refine HSS.out.mono ?_
              rintro e w9 ⟨rfl, hb⟩
              have hbc := H8.out.trans (hb.mono H8.out.size)
              clear f2 f3 f4 f5 s0 s1 s2 s3 hb
              have H9 := Lib.hid hbc
              clear hbc
              go_wp2_with (fail)
              go_roundg (L.length - (k + 1))
              case measure => have := hg.out; have := HX.out.1; omega
              case rel => exact ⟨k + 1, by go_num, (show L.length - (k + 1) + (k + 1) = L.length by have := HX.out.1; omega), HW6.out.2.trans (H9.out.mono HW6.out.1)⟩
          · have hltI : ¬ (k : Int) < (L.length : Int) := by omega
            clear hlt
            go_wp2_with (fail)
            go_ret
            exact ⟨rfl, H1.out.1.trans ((HWC.out.1.trans (hB.out.mono HWC.out.1.size)).mono H1.out.1.size)⟩
end Go.Proofs.YthnngndnpigjbaaGreat
