/- The walk of hardtacktop.TopTrusted. Conditions: none. -/
import Derived.Test.YthjkdpphbipgfaaPendF
import Derived.Test.YthjkdpphbipgfaaMsgSmall
import Derived.Test.YthjkdpphbipgfaaTopBegin
import Derived.Test.YthjkdpphbipgfaaWithin
import Derived.Deep.RegionHeld3
import Derived.Deep.DeepCutAuto
import Derived.Deep.CutBlock
namespace Go.Proofs.Ythjkdpphbipgfaa
open Go.RowKit Go.Shelf Go.Lib

theorem last4t {a b c d : Prop} (H : a ∧ b ∧ c ∧ d) : d := H.2.2.2
theorem step_b2t {V X Y : World} (h : Below V.heap.size V X) (k : Below X.heap.size X Y) : Below V.heap.size V Y := h.trans (k.mono h.size)
theorem step_gt {V X Y : World} {row : Option Nat} (h : Below V.heap.size V X) (hg : X.grownBy Y row) (hr : ∀ i, row = some i → V.heap.size ≤ i) : Below V.heap.size V Y := h.grown hg h.size hr
/-- What stands in the first loop. -/
structure TI (w2 wr : World) (g mb : Nat) (A : Option Addr) (c : Nat) (xs : List QY) (k : Nat) : Prop where
  pt : PT wr g mb A c xs k
  bl : Below w2.heap.size w2 wr
  lg : w2.heap.size ≤ g ∧ w2.heap.size ≤ mb ∧ ∀ b, (Value.slice A xs.length c).ownBlock = some b → w2.heap.size ≤ b
theorem TI.step {w2 wr V w' : World} {g mb k : Nat} {A A' : Option Addr} {c c' : Nat} {xs xs' : List QY} (h : TI w2 wr g mb A c xs k) (hV : Below wr.heap.size wr V) (hp : PT w' g mb A' c' xs' (k + 1)) (hk : KeepT V g mb (Value.slice A xs.length c).ownBlock w')
    (ho : ∀ b, (Value.slice A' xs'.length c').ownBlock = some b → (Value.slice A xs.length c).ownBlock = some b ∨ V.heap.size ≤ b) : TI w2 w' g mb A' c' xs' (k + 1) := by
  have z1 := h.bl.size
  have z2 := hV.size
  refine ⟨hp, ?_, ⟨h.lg.1, h.lg.2.1, fun b hb => ?_⟩⟩
  · have k1 : KeepK (fun b => b < w2.heap.size) w2 wr := KeepK.of_below h.bl fun _ hb => hb
    have k2 : KeepK (fun b => b < w2.heap.size) wr V := KeepK.of_below hV fun b hb => by omega
    have k3 : KeepK (fun b => b < w2.heap.size) V w' := KeepK.mono hk fun b hb => ⟨by omega, by have := h.lg.1; omega, by have := h.lg.2.1; omega, fun e => by have := h.lg.2.2 b e; omega⟩
    exact ((k1.trans k2).trans k3).below fun _ hb => hb
  · rcases ho b hb with e | e
    · exact h.lg.2.2 b e
    · omega
theorem pnew_ti {w2 w3 : World} {g mb : Nat} (h1 : Blk w3 g 115 #[.int .i64 64, .slice none 0 0, .map (some mb)]) (h2 : MapV Try.prog 117 w3 mb 0 (fun _ => none)) (h3 : Below w2.heap.size w2 w3) (h4 : w2.heap.size ≤ g) (h5 : w2.heap.size ≤ mb) (h6 : g ≠ mb) : TI w2 w3 g mb none 0 [] 0 :=
  ⟨⟨h1, Sl.nil _ _, ⟨_, h2, fun k v hv => by cases hv⟩, ⟨h6, fun q hq => by simp [Value.ownBlock] at hq⟩, (fun q hq => nomatch hq), ⟨by omega, Nat.le_refl _⟩⟩, h3, ⟨h4, h5, fun q hq => by simp [Value.ownBlock] at hq⟩⟩

theorem last8t {a b c d e f g h : Prop} (H : a ∧ b ∧ c ∧ d ∧ e ∧ f ∧ g ∧ h) : h := H.2.2.2.2.2.2.2
theorem within_all {z : Bs} {s h e : List RRec} {r : RRec} (hr : r ∈ leftL z s ++ leftL z h ++ glueL z s h e) : withinB r.nb z = true := by
  have hs : staysB z r = true := by
    simp only [List.mem_append] at hr
    rcases hr with (hr | hr) | hr
    · exact (left_stays hr).2
    · exact (left_stays hr).2
    · exact (left_stays (glue_left hr)).2
  unfold staysB at hs
  simp only [Bool.and_eq_true] at hs
  exact hs.2.2.2
theorem name_ok {m : MRec} (hm : m.Ok) {z : Bs} {r : RRec} (hr : r ∈ leftL z m.s ++ leftL z m.h ++ glueL z m.s m.h m.e) : r.n.size ≤ maxLen := by
  have h : r.ok := by
    simp only [List.mem_append] at hr
    rcases hr with (hr | hr) | hr
    · exact hm.os r (left_stays hr).1
    · exact hm.oh r (left_stays hr).1
    · exact hm.oe r (left_stays (glue_left hr)).1
  exact h.1.1
set_option maxHeartbeats 16000000 in
set_option maxRecDepth 100000 in
theorem topTrusted_law (w : World) (A : Option Addr) (xs : List QY) (c : Nat) (hT : QYTab w A xs) (hxo : ∀ q ∈ xs, q.Ok) (hc : xs.length ≤ c) (hcm : c ≤ maxLen) (z : ByteArray) (hz : z.size ≤ maxLen) (ad po : Int) (had : 0 ≤ ad ∧ ad ≤ 4294967295) (hpo : 0 ≤ po ∧ po ≤ 65535) (m : MRec) (hm : m.In w) (hmo : m.Ok) :
    Calls Try.prog 6 #[.slice A xs.length c, .string z, .int .u32 ad, .int .u16 po, m.val] w fun e w' => e = .returned (.bool true) ∧ Below w.heap.size w w' := by
  obtain ⟨i0, hi0, hz0, hz1, hz2⟩ := info_parts info_rr
  have HX := Lib.hid (And.intro hT (And.intro hxo hz))
  have HM := Lib.hid (And.intro hm (And.intro hmo (And.intro had hpo)))
  unfold maxLen at hcm
  have hlI : (xs.length : Int) ≤ 9223372036854775807 := by omega
  clear hT hxo hc hcm hz hm hmo had hpo
  dsimp only [MRec.val]
  go_enter Try.func6, Try.ntmps6
  go_wp2_with (fail)
  obtain ⟨V, hV⟩ : ∃ V, w.alloc (.cells #[.int .u16 m.id, .int .u16 m.bi, .slice m.qA m.q.length m.qc, .slice m.sA m.s.length m.sc, .slice m.hA m.h.length m.hc, .slice m.eA m.e.length m.ec] 26) = V := ⟨_, rfl⟩
  have HV := Lib.hid (show Below w.heap.size w V ∧ MsgB V w.heap.size m from by
    rw [← hV]; exact ⟨(Below.refl _ _).alloc (Nat.le_refl _) _, Blk.new _ _ _⟩)
  rw [hV]
  clear hV
  with_reducible refine (begins_any _).mono ?_
  rintro e w1 ⟨rfl, hb⟩
  have H1 := Lib.hid (show Below w.heap.size w w1 ∧ MsgB w1 w.heap.size m from ⟨HV.out.1.trans (hb.mono HV.out.1.size), HV.out.2.below hb HV.out.2.lt⟩)
  clear hb HV
  by_cases h40 : 40 < xs.length
  · have h4I : (40 : Int) < (xs.length : Int) := by omega
    clear h40
    go_wp2_with (fail)
    go_ret
    exact ⟨rfl, H1.out.1⟩
  have h4I : ¬ (40 : Int) < (xs.length : Int) := by omega
  have H40 := Lib.hid (show xs.length ≤ 40 by omega)
  clear h40
  have c0 := H1.out.2.cell 0
  have c1 := H1.out.2.cell 1
  have c2 := H1.out.2.cell 2
  have c3 := H1.out.2.cell 3
  have c4 := H1.out.2.cell 4
  have c5 := H1.out.2.cell 5
  have HSML := Lib.hid (small6_any m w1 (HM.out.1.below H1.out.1) HM.out.2.1)
  dsimp only [MRec.val] at HSML
  go_wp2_with (fail)
  with_reducible refine HSML.out.mono ?_
  rintro e w2 ⟨hsm, hb⟩
  have H2 := Lib.hid (show Below w.heap.size w w2 ∧ MsgB w2 w.heap.size m from ⟨H1.out.1.trans (hb.mono H1.out.1.size), H1.out.2.below hb H1.out.2.lt⟩)
  clear hb H1 HSML c0 c1 c2 c3 c4 c5
  rcases hsm with rfl | ⟨rfl, hsm⟩
  · go_wp2_with (fail)
    go_ret
    exact ⟨rfl, H2.out.1⟩
  have HS := Lib.hid hsm
  clear hsm
  go_wp2_with (fail)
  with_reducible refine (pnew_any _).mono ?_
  rintro e w3 ⟨g, mb, rfl, k1, k2, k3, k4, k5, k6⟩
  have W3 := Lib.hid (pnew_ti k1 k2 k3 k4 k5 k6)
  clear k1 k2 k3 k4 k5 k6
  go_wp2_with (fail)
  go_loopg [42] xs.length (fun gg v42 wr => ∃ (k : Nat) (A' : Option Addr) (c' : Nat) (ys : List QY), v42 = .int .i64 (k : Int) ∧ Aside (gg + k = xs.length) ∧ Aside (TI w2 wr g mb A' c' ys k))
  case atStart => exact ⟨0, none, 0, [], rfl, rfl, W3.out⟩
  case round =>
    obtain ⟨k, A', c', ys, rfl, hg, hI⟩ := hrel
    by_cases hlt : k < xs.length
    · have hltI : (k : Int) < (xs.length : Int) := by omega
      have hxl : (xs.length : Int) ≤ 40 := by have := H40.out; omega
      obtain ⟨y, hy⟩ : ∃ y, xs[k]? = some y := ⟨_, List.getElem?_eq_getElem hlt⟩
      obtain ⟨b, off, rfl, hbl, hc⟩ := (HX.out.1.below (H2.out.1.trans (hI.out.bl.mono H2.out.1.size))).cells hy
      have c0 : wr.cell? ⟨b, off + k * 10, none⟩ = some (.int .u16 y.i) := hc 0 _ rfl
      have c1 : wr.cell? ⟨b, off + k * 10 + 1, none⟩ = some (.int .u16 y.p) := hc 1 _ rfl
      have c2 : wr.cell? ⟨b, off + k * 10 + 2, none⟩ = some (.int .u32 y.a) := hc 2 _ rfl
      have c3 : wr.cell? ⟨b, off + k * 10 + 3, none⟩ = some (.string y.n) := hc 3 _ rfl
      have c4 : wr.cell? ⟨b, off + k * 10 + 4, none⟩ = some (.int .u16 y.ty) := hc 4 _ rfl
      have c5 : wr.cell? ⟨b, off + k * 10 + 5, none⟩ = some (.int .u16 y.cl) := hc 5 _ rfl
      have c6 : wr.cell? ⟨b, off + k * 10 + 6, none⟩ = some (.string y.ck) := hc 6 _ rfl
      have c7 : wr.cell? ⟨b, off + k * 10 + 7, none⟩ = some (.bool y.tcp) := hc 7 _ rfl
      have c8 : wr.cell? ⟨b, off + k * 10 + 8, none⟩ = some (.int .i64 y.du) := hc 8 _ rfl
      have c9 : wr.cell? ⟨b, off + k * 10 + 9, none⟩ = some (.int .i64 y.ta) := hc 9 _ rfl
      have HY := Lib.hid (HX.out.2.1 y (List.mem_of_getElem? hy))
      clear hy hc hlt
      go_wp2_with (fail)
      obtain ⟨V4, hV4⟩ : ∃ V4, wr.alloc (.cells #[.int .u16 y.i, .int .u16 y.p, .int .u32 y.a, .string y.n, .int .u16 y.ty, .int .u16 y.cl, .string y.ck, .bool y.tcp, .int .i64 y.du, .int .i64 y.ta] 65) = V4 := ⟨_, rfl⟩
      have hb4 : Below wr.heap.size wr V4 := by rw [← hV4]; exact (Below.refl _ _).alloc (Nat.le_refl _) _
      have H4 := Lib.hid (And.intro hb4 (hI.out.pt.below hb4))
      rw [hV4]
      clear hV4 hb4 c0 c1 c2 c3 c4 c5 c6 c7 c8 c9
      have HAD := Lib.hid (padd_any H4.out.2 (by have := hg.out; have := H40.out; have := hltI; omega) y HY.out)
      dsimp only [QY.val] at HAD
      with_reducible refine HAD.out.mono ?_
      rintro e w5 ⟨zz, A5, c5, ys5, rfl, p1, p2, p3⟩
      have H5 := Lib.hid (hI.out.step H4.out.1 p1 p2 p3)
      clear p1 p2 p3 HAD H4
      go_wp2_with (fail)
      go_roundg (xs.length - (k + 1))
      case measure => have := hg.out; have := hltI; omega
      case rel => exact ⟨k + 1, A5, c5, ys5, by go_num, (show xs.length - (k + 1) + (k + 1) = xs.length by have := hltI; omega), H5.out⟩
    · have hltI : ¬ (k : Int) < (xs.length : Int) := by omega
      clear hlt
      have HB := Lib.hid (show MsgB wr w.heap.size m ∧ Below w.heap.size w wr from ⟨H2.out.2.below hI.out.bl H2.out.2.lt, H2.out.1.trans (hI.out.bl.mono H2.out.1.size)⟩)
      have HMA := Lib.hid (match_any hI.out.pt m po ad false HM.out.2.1.oid HM.out.2.2.2 HM.out.2.2.1 (HM.out.1.below HB.out.2) (fun e he => (HM.out.2.1.oq e he).1))
      dsimp only [MRec.val] at HMA
      have c0 := HB.out.1.cell 0
      have c1 := HB.out.1.cell 1
      have c2 := HB.out.1.cell 2
      have c3 := HB.out.1.cell 3
      have c4 := HB.out.1.cell 4
      have c5 := HB.out.1.cell 5
      go_wp2_with (fail)
      with_reducible refine HMA.out.mono ?_
      rintro e w4 ⟨⟨q, hq⟩, hb⟩
      have H4 := Lib.hid (show MsgB w4 w.heap.size m ∧ Below w.heap.size w w4 from ⟨HB.out.1.below hb HB.out.1.lt, HB.out.2.trans (hb.mono HB.out.2.size)⟩)
      clear HMA HB hb c0 c1 c2 c3 c4 c5 hI hg
      rcases hq with rfl | ⟨hf, rfl⟩
      · dsimp only [QY.val]
        go_wp2_with (fail)
        go_ret
        exact ⟨rfl, H4.out.2.trans (((Below.refl _ _).alloc (Nat.le_refl _) _).mono H4.out.2.size)⟩
      · have HF := Lib.hid hf
        clear hf
        dsimp only [QY.val]
        have c0 := H4.out.1.cell 0
        have c1 := H4.out.1.cell 1
        have c2 := H4.out.1.cell 2
        have c3 := H4.out.1.cell 3
        have c4 := H4.out.1.cell 4
        have c5 := H4.out.1.cell 5
        have hwl := H4.out.1.lt
        go_wp2_with (fail)
        obtain ⟨bq, hbq⟩ : ∃ bq, w4.heap.size = bq := ⟨_, rfl⟩
        obtain ⟨V5, hV5⟩ : ∃ V5, w4.alloc (.cells #[.int .u16 q.i, .int .u16 q.p, .int .u32 q.a, .string q.n, .int .u16 q.ty, .int .u16 q.cl, .string q.ck, .bool q.tcp, .int .i64 q.du, .int .i64 q.ta] 65) = V5 := ⟨_, rfl⟩
        have H5 := Lib.hid (show Below w.heap.size w V5 ∧ Blk V5 bq 65 #[.int .u16 q.i, .int .u16 q.p, .int .u32 q.a, .string q.n, .int .u16 q.ty, .int .u16 q.cl, .string q.ck, .bool q.tcp, .int .i64 q.du, .int .i64 q.ta] from by
          rw [← hV5, ← hbq]; exact ⟨H4.out.2.alloc H4.out.2.size _, Blk.new _ _ _⟩)
        rw [hV5, hbq]
        rw [hbq] at hwl
        clear hV5 hbq c0 c1 c2 c3 c4 c5 H4
        have HSC := Lib.hid (scrubMsg_any m z HS.out HX.out.2.2 V5 (HM.out.1.below H5.out.1))
        have HXL : (leftL z.data.toList m.s).length ≤ 1000 ∧ (leftL z.data.toList m.h).length ≤ 1000 ∧ (glueL z.data.toList m.s m.h m.e).length ≤ 1000 := by
          have h1 := left_len z.data.toList m.s
          have h2 := left_len z.data.toList m.h
          have h3 := glue_len z.data.toList m.s m.h m.e
          have := HS.out.ls
          have := HS.out.lh
          have := HS.out.le
          exact ⟨by omega, by omega, by omega⟩
        have HSU := Lib.hid (fun r => @within_all z.data.toList m.s m.h m.e r)
        have HSO := Lib.hid (fun r (hr : r ∈ leftL z.data.toList m.s ++ leftL z.data.toList m.h ++ glueL z.data.toList m.s m.h m.e) => name_ok HM.out.2.1 (z := z.data.toList) hr)
        obtain ⟨L1, hL1⟩ : ∃ L, leftL z.data.toList m.s = L := ⟨_, rfl⟩
        obtain ⟨L2, hL2⟩ : ∃ L, leftL z.data.toList m.h = L := ⟨_, rfl⟩
        obtain ⟨L3, hL3⟩ : ∃ L, glueL z.data.toList m.s m.h m.e = L := ⟨_, rfl⟩
        rw [hL1, hL2, hL3] at HSC HXL HSU HSO
        clear hL1 hL2 hL3
        dsimp only [MRec.val] at HSC
        with_reducible refine HSC.out.mono ?_
        rintro e w6 ⟨qA, qc, sA, sc, hA, hc, eA, ec, rfl, hInX, hb⟩
        dsimp only [MRec.val]
        go_wp2_with (fail)
        obtain ⟨bx, hbx⟩ : ∃ bx, w6.heap.size = bx := ⟨_, rfl⟩
        obtain ⟨V7, hV7⟩ : ∃ V7, w6.alloc (.cells #[.int .u16 m.id, .int .u16 m.bi, .slice qA m.q.length qc, .slice sA L1.length sc, .slice hA L2.length hc, .slice eA L3.length ec] 26) = V7 := ⟨_, rfl⟩
        have hbV : Below w6.heap.size w6 V7 := by rw [← hV7]; exact below_alloc1 _ _
        have H7 := Lib.hid (show Below w.heap.size w V7 ∧ Blk V7 bq 65 #[.int .u16 q.i, .int .u16 q.p, .int .u32 q.a, .string q.n, .int .u16 q.ty, .int .u16 q.cl, .string q.ck, .bool q.tcp, .int .i64 q.du, .int .i64 q.ta] ∧ Blk V7 bx 26 #[.int .u16 m.id, .int .u16 m.bi, .slice qA m.q.length qc, .slice sA L1.length sc, .slice hA L2.length hc, .slice eA L3.length ec] ∧ MRec.In ⟨m.id, m.bi, qA, m.q, qc, sA, L1, sc, hA, L2, hc, eA, L3, ec⟩ V7 from by
          refine ⟨H5.out.1.trans ((hb.trans (hbV.mono hb.size)).mono H5.out.1.size), (H5.out.2.below hb H5.out.2.lt).below hbV (H5.out.2.below hb H5.out.2.lt).lt, ?_, hInX.below hbV⟩
          rw [← hV7, ← hbx]
          exact Blk.new _ _ _)
        rw [hV7, hbx]
        clear hV7 hbx hbV hInX hb H5 HSC
        obtain ⟨L, hL⟩ : ∃ L, L1 ++ L2 ++ L3 = L := ⟨_, rfl⟩
        rw [hL] at HSU HSO
        have HLL := Lib.hid hL
        clear hL
        obtain ⟨l1, l2, l3⟩ := HXL
        have hLL : L.length ≤ 3000 := by rw [← HLL.out]; simp only [List.length_append]; omega
        have hLI : (L.length : Int) ≤ 3000 := by omega
        go_cut [74, 75, 76] (fun v74 v75 v76 wx => ∃ (A3 : Option Addr) (k3 : Nat), v74 = .slice A3 L.length k3 ∧ v75 = .int .i64 (L.length : Int) ∧ v76 = .int .i64 0 ∧ Aside (Sl wx 5 (.slice A3 L.length k3) L.length (flatV RRec.vs L) ∧ Below V7.heap.size V7 wx))
        case first =>
          have HKA : RowKit.Hid (∀ w', Below V7.heap.size V7 w' → w'.cell? ⟨bx, 3, none⟩ = some (.slice sA L1.length sc) ∧ w'.cell? ⟨bx, 4, none⟩ = some (.slice hA L2.length hc) ∧ w'.cell? ⟨bx, 5, none⟩ = some (.slice eA L3.length ec) ∧ Below V7.heap.size V7 w') := Lib.hid (fun w' hb => by
            have c0 := H7.out.2.2.1.below hb H7.out.2.2.1.lt
            exact ⟨c0.cell 3, c0.cell 4, c0.cell 5, hb⟩)
          have HIn := Lib.hid (fun W (hW : Below V7.heap.size V7 W) => H7.out.2.2.2.below hW)
          have R0 : Below V7.heap.size V7 V7 := Below.refl _ _
          have hB0 : ∀ g, (Value.slice (some ⟨V7.heap.size, 0, none⟩) 0 0).ownBlock = some g → V7.heap.size ≤ g := fun g hg => by simp [Value.ownBlock] at hg; omega
          go_region_held3 (fun w' => w'.cell? ⟨bx, 3, none⟩ = some (.slice sA L1.length sc) ∧ w'.cell? ⟨bx, 4, none⟩ = some (.slice hA L2.length hc) ∧ w'.cell? ⟨bx, 5, none⟩ = some (.slice eA L3.length ec) ∧ Below V7.heap.size V7 w')
            (first | with_reducible assumption | with_reducible exact HKA.out _ R0 | with_reducible exact HKA.out _ R0.drew | with_reducible exact HKA.out _ (step_b2t (last4t (by assumption)) (below_alloc1 _ _)) | with_reducible exact HKA.out _ (step_gt (last4t (by assumption)) hg3 ho2) | with_reducible exact HKA.out _ (step_gt (last4t (by assumption)) hg2 ho1) | with_reducible exact HKA.out _ (step_gt (last4t (by assumption)) hg1 hB0))
            (first
              | (refine step_append_sl _ (by rfl) (.tmp 65) (.tmp 67) 24 24 rfl 30 i0 (.agg #[.string ⟨#[]⟩, .int .u16 0, .int .u16 0, .int .u32 0, .string ⟨#[]⟩]) 5 40 Try.underlying24 hi0 hz0 hz1 hz2 rfl (.slice (some ⟨V7.heap.size, 0, none⟩) 0 0) 0 [] rfl (sl_empty_n V7.drew 30 5) (.slice sA L1.length sc) rfl L1.length (flatV RRec.vs L1) (src_reads Try.underlying24 ((HIn.out _ (last4t (by assumption))).ts.reads RRec.five (by decide)) (rr_one _)) (by unfold maxLen; omega) (by omega) ?_; intro v1 w1 hs1 hg1 hv1; obtain ⟨A1, k1, rfl, hk1, hm1⟩ := hs1.shape; have ho1 : ∀ g, (Value.slice A1 (0 + L1.length) k1).ownBlock = some g → V7.heap.size ≤ g := own_from hB0 (by simp) hv1; have hq1 : V7.heap.size ≤ w1.heap.size := by have h9 := hg1.size; simp at h9; omega)
              | (refine step_append_sl _ (by rfl) (.tmp 68) (.tmp 70) 24 24 rfl 30 i0 (.agg #[.string ⟨#[]⟩, .int .u16 0, .int .u16 0, .int .u32 0, .string ⟨#[]⟩]) 5 40 Try.underlying24 hi0 hz0 hz1 hz2 rfl (.slice A1 (0 + L1.length) k1) (0 + L1.length) ([] ++ flatV RRec.vs L1) rfl hs1 (.slice hA L2.length hc) rfl L2.length (flatV RRec.vs L2) (src_reads Try.underlying24 ((HIn.out _ (last4t (by assumption))).th.reads RRec.five (by decide)) (rr_one _)) (by unfold maxLen; omega) (by omega) ?_; intro v2 w2 hs2 hg2 hv2; obtain ⟨A2, k2, rfl, hk2, hm2⟩ := hs2.shape; have ho2 : ∀ g, (Value.slice A2 (0 + L1.length + L2.length) k2).ownBlock = some g → V7.heap.size ≤ g := own_from ho1 hq1 hv2; have hq2 : V7.heap.size ≤ w2.heap.size := Nat.le_trans hq1 hg2.size)
              | (refine step_append_sl _ (by rfl) (.tmp 71) (.tmp 73) 24 24 rfl 30 i0 (.agg #[.string ⟨#[]⟩, .int .u16 0, .int .u16 0, .int .u32 0, .string ⟨#[]⟩]) 5 40 Try.underlying24 hi0 hz0 hz1 hz2 rfl (.slice A2 (0 + L1.length + L2.length) k2) (0 + L1.length + L2.length) ([] ++ flatV RRec.vs L1 ++ flatV RRec.vs L2) rfl hs2 (.slice eA L3.length ec) rfl L3.length (flatV RRec.vs L3) (src_reads Try.underlying24 ((HIn.out _ (last4t (by assumption))).te.reads RRec.five (by decide)) (rr_one _)) (by unfold maxLen; omega) (by omega) ?_; intro v3 w3 hs3 hg3 hv3; obtain ⟨A3, k3, rfl, hk3, hm3⟩ := hs3.shape))
          all_goals
            have hB : Below V7.heap.size V7 _ := (last4t (by assumption))
            have hn : 0 + L1.length + L2.length + L3.length = L.length := by rw [← HLL.out]; simp only [List.length_append]; omega
            have hf : [] ++ flatV RRec.vs L1 ++ flatV RRec.vs L2 ++ flatV RRec.vs L3 = flatV RRec.vs L := by rw [← HLL.out, flatV_append, flatV_append]; simp
            rw [hf, hn] at hs3
            have hn2 : L1.length + L2.length + L3.length = L.length := by omega
            have hnI : ((L1.length + L2.length + L3.length : Nat) : Int) = (L.length : Int) := by rw [hn2]
            have hnI2 : (L1.length : Int) + (L2.length : Int) + (L3.length : Int) = (L.length : Int) := by omega
            have HE := Lib.hid (And.intro hs3 hB)
            clear hB hf hs1 hs2 hs3 hg1 hg2 hg3 hv1 hv2 hv3 ho1 ho2 hk1 hk2 hk3 hm1 hm2 hm3
            try rw [hn]
            try rw [hn2]
            go_wp2_with (fail)
            go_meet
            refine ⟨A3, k3, ?_, ?_, rfl, HE.out⟩
            all_goals first | rfl | (simp [hnI2]) | skip
        case rest =>
          obtain ⟨A3, k3, rfl, rfl, rfl, hS⟩ := hcut
          obtain ⟨W8, hW8⟩ : ∃ W8, W8 = wc := ⟨_, rfl⟩
          subst hW8
          have H8 := Lib.hid hS.out
          clear hS l1 l2 l3 HLL
          go_wp2_with (fail)
          go_loopg [76] L.length (fun gg v76 wr => ∃ k : Nat, v76 = .int .i64 (k : Int) ∧ Aside (gg + k = L.length) ∧ Aside (Below W8.heap.size W8 wr))
          case atStart => exact ⟨0, rfl, rfl, Below.refl _ _⟩
          case round =>
            obtain ⟨k2, rfl, hg2, hB⟩ := hrel
            by_cases hkl : k2 < L.length
            · obtain ⟨r, hr⟩ : ∃ r, L[k2]? = some r := ⟨_, List.getElem?_eq_getElem hkl⟩
              have hkI : (k2 : Int) < (L.length : Int) := by omega
              obtain ⟨b, off, rfl, hbl, r0, r1, r2, r3, r4⟩ := ((rtab_of_sl H8.out.1).below hB.out).cells hr
              have hw : withinB r.n.data.toList z.data.toList = true := HSU.out r (List.mem_of_getElem? hr)
              have HWI := Lib.hid (fun W => Within_any r.n z (HSO.out r (List.mem_of_getElem? hr)) HX.out.2.2 W)
              rw [hw] at HWI
              clear hr hw hkl
              go_wp2_with (fail)
              obtain ⟨V9, hV9⟩ : ∃ V9, wr.alloc (.cells #[.string r.n, .int .u16 r.t, .int .u16 r.c, .int .u32 r.l, .string r.d] 30) = V9 := ⟨_, rfl⟩
              have H9 := Lib.hid (show Below W8.heap.size W8 V9 from by rw [← hV9]; exact hB.out.alloc hB.out.size _)
              rw [hV9]
              clear hV9 r0 r1 r2 r3 r4
              with_reducible refine (HWI.out _).mono ?_
              rintro e w9 ⟨rfl, hb⟩
              have H10 := Lib.hid (H9.out.trans (hb.mono H9.out.size))
              clear hb
              go_wp2_with (fail)
              go_roundg (L.length - (k2 + 1))
              case measure => have := hg2.out; have := hkI; omega
              case rel => exact ⟨k2 + 1, by go_num, (show L.length - (k2 + 1) + (k2 + 1) = L.length by have := hkI; omega), H10.out⟩
            · have hkI : ¬ (k2 : Int) < (L.length : Int) := by omega
              clear hkl
              have hVr : Below V7.heap.size V7 wr := H8.out.2.trans (hB.out.mono H8.out.2.size)
              have hqb := H7.out.2.1.below hVr H7.out.2.1.lt
              have hxb := H7.out.2.2.1.below hVr H7.out.2.2.1.lt
              obtain ⟨q0, hq0, hsame⟩ := HF.out.r
              obtain ⟨b2, off2, rfl, hbl, s0, _, _⟩ := (H7.out.2.2.2.below hVr).tq.cells (k := 0) (e := q0) (by rw [hq0]; rfl)
              simp only [Nat.zero_mul, Nat.add_zero] at s0
              have KF : RowKit.Hid (∀ w', Below wr.heap.size wr w' → w'.cell? ⟨bx, 2, none⟩ = some (.slice (some ⟨b2, off2, none⟩) m.q.length qc) ∧ w'.cell? ⟨b2, off2, none⟩ = some (.string q0.n) ∧ w'.cell? ⟨bq, 3, none⟩ = some (.string q.n) ∧ w'.cell? ⟨bq, 0, none⟩ = some (.int .u16 q.i) ∧ w'.cell? ⟨bx, 0, none⟩ = some (.int .u16 m.id) ∧ w'.cell? ⟨bq, 2, none⟩ = some (.int .u32 q.a) ∧ w'.cell? ⟨bq, 1, none⟩ = some (.int .u16 q.p) ∧ Below wr.heap.size wr w') := Lib.hid (fun w' hb => by
                have x1 := hxb.below hb hxb.lt
                have x2 := hqb.below hb hqb.lt
                exact ⟨x1.cell 2, (hb.cell (p := ⟨b2, off2, none⟩) hbl).trans s0, x2.cell 3, x2.cell 0, x1.cell 0, x2.cell 2, x2.cell 1, hb⟩)
              have R1 : Below wr.heap.size wr wr := Below.refl _ _
              have hql : m.q.length = 1 := by rw [hq0]; rfl
              have hq1 : ((m.q.length : Int) == 1) = true := by rw [hql]; rfl
              have hqI : (0 : Int) < (m.q.length : Int) := by omega
              have hqN : 0 < m.q.length := by omega
              have e1 : (q.i == m.id) = true := by simp [HF.out.i]
              have e2 : (q.a == ad) = true := by simp [HF.out.a]
              have e3 : (q.p == po) = true := by simp [HF.out.p]
              have HSA := Lib.hid (fun W => Same_any q0.n q.n (by have := (HM.out.2.1.oq q0 (by rw [hq0]; simp)).1; unfold maxLen at this; omega) (by have := HF.out.nb; unfold maxLen at this; omega) W)
              rw [hsame] at HSA
              have HFI := Lib.hid (H7.out.1.trans (hVr.mono H7.out.1.size))
              clear hq0 hsame hql s0 hbl hqb hxb hVr hB hg2
              go_wp2_with (fail)
              go_region_held3 (fun w' => w'.cell? ⟨bx, 2, none⟩ = some (.slice (some ⟨b2, off2, none⟩) m.q.length qc) ∧ w'.cell? ⟨b2, off2, none⟩ = some (.string q0.n) ∧ w'.cell? ⟨bq, 3, none⟩ = some (.string q.n) ∧ w'.cell? ⟨bq, 0, none⟩ = some (.int .u16 q.i) ∧ w'.cell? ⟨bx, 0, none⟩ = some (.int .u16 m.id) ∧ w'.cell? ⟨bq, 2, none⟩ = some (.int .u32 q.a) ∧ w'.cell? ⟨bq, 1, none⟩ = some (.int .u16 q.p) ∧ Below wr.heap.size wr w')
                (first | with_reducible assumption | with_reducible exact KF.out _ R1 | with_reducible exact KF.out _ R1.drew | with_reducible exact KF.out _ (step_b2t (last8t (by assumption)) hb))
                (first | (go_at_call 33; refine (HSA.out _).mono ?_; rintro e w' ⟨rfl, hb⟩))
              all_goals
                have hbF : Below wr.heap.size wr _ := last8t (by assumption)
                have HFF := Lib.hid (HFI.out.trans (hbF.mono HFI.out.size))
                clear hbF
                go_wp2_with (fail)
                go_ret
                exact ⟨rfl, HFF.out⟩
theorem topTrusted_fin (w : World) (A : Option Addr) (xs : List QY) (c : Nat) (z : ByteArray) (ad po : Int) (m : MRec) (hT : QYTab w A xs) (hxo : ∀ q ∈ xs, q.Ok) (hc : xs.length ≤ c) (hcm : c ≤ maxLen) (hz : z.size ≤ maxLen) (had : 0 ≤ ad ∧ ad ≤ 4294967295) (hpo : 0 ≤ po ∧ po ≤ 65535) (hm : m.In w) (hmo : m.Ok) :
    Calls Try.prog 6 #[.slice A xs.length c, .string z, .int .u32 ad, .int .u16 po, m.val] w fun e w' => e = .returned (.bool true) ∧ Below w.heap.size w w' :=
  topTrusted_law w A xs c hT hxo hc hcm z hz ad po had hpo m hm hmo
end Go.Proofs.Ythjkdpphbipgfaa
