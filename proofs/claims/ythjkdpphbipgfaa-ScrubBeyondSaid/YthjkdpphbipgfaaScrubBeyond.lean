/- The walk of hardtacklaw20.ScrubBeyond. Conditions: none. -/
import Derived.Test.YthjkdpphbipgfaaBeyondA
import Derived.Test.YthjkdpphbipgfaaLives20
import Derived.Test.YthjkdpphbipgfaaNamesP
namespace Go.Proofs.Ythjkdpphbipgfaa
open Go.RowKit Go.Shelf Go.Lib

theorem last13 {a0 a1 a2 a3 a4 a5 a6 a7 a8 a9 a10 a11 a12 : Prop} (H : a0 ∧ a1 ∧ a2 ∧ a3 ∧ a4 ∧ a5 ∧ a6 ∧ a7 ∧ a8 ∧ a9 ∧ a10 ∧ a11 ∧ a12) : a12 := H.2.2.2.2.2.2.2.2.2.2.2.2
theorem left_sub {z : Bs} {s h e : List RRec} {r : RRec} (hr : r ∈ leftL z s ++ leftL z h ++ glueL z s h e) : r ∈ s ++ h ++ e ∧ staysB z r = true := by
  simp only [List.mem_append] at hr ⊢
  rcases hr with (hr | hr) | hr
  · exact ⟨.inl (.inl (left_stays hr).1), (left_stays hr).2⟩
  · exact ⟨.inl (.inr (left_stays hr).1), (left_stays hr).2⟩
  · exact ⟨.inr (left_stays (glue_left hr)).1, (left_stays (glue_left hr)).2⟩
theorem gone_left (z : Bs) (s h e : List RRec) : goneN z (leftL z s) (leftL z h) (glueL z s h e) = 0 := by
  unfold goneN
  rw [left_again, left_again, glue_again]
  omega
theorem gone_eq (z : Bs) (s h e : List RRec) : ((goneN z s h e : Nat) : Int) = ((s ++ h ++ e).length : Int) - ((leftL z s ++ leftL z h ++ glueL z s h e).length : Int) := by
  have h1 := left_len z s
  have h2 := left_len z h
  have h3 := glue_len z s h e
  unfold goneN
  simp only [List.length_append]
  omega

set_option maxRecDepth 100000 in
set_option maxHeartbeats 32000000 in
theorem scrubBeyond_law (w : World) (m : MRec) (z cs : ByteArray) (hm : m.In w) (hmo : m.Ok) (hz : z.size ≤ maxLen) (hcs : cs.size ≤ maxLen) :
    Calls Try.prog 4 #[m.val, .string z, .string cs] w fun e w' => e = .returned (.bool true) ∧ Below w.heap.size w w' := by
  have HM := Lib.hid (And.intro hm (And.intro hmo (And.intro hz hcs)))
  clear hm hmo hz hcs
  have HSML := Lib.hid (fun W (hW : m.In W) => small6_any m W hW HM.out.2.1)
  dsimp only [MRec.val] at HSML ⊢
  go_enter Try.func4, Try.ntmps4
  go_wp2_with (fail)
  obtain ⟨V, hV⟩ : ∃ V, w.alloc (.cells #[.int .u16 m.id, .int .u16 m.bi, .slice m.qA m.q.length m.qc, .slice m.sA m.s.length m.sc, .slice m.hA m.h.length m.hc, .slice m.eA m.e.length m.ec] 26) = V := ⟨_, rfl⟩
  have HV := Lib.hid (show Below w.heap.size w V ∧ Blk V w.heap.size 26 #[.int .u16 m.id, .int .u16 m.bi, .slice m.qA m.q.length m.qc, .slice m.sA m.s.length m.sc, .slice m.hA m.h.length m.hc, .slice m.eA m.e.length m.ec] from by
    rw [← hV]; exact ⟨(Below.refl _ _).alloc (Nat.le_refl _) _, Blk.new _ _ _⟩)
  rw [hV]
  clear hV
  refine (lives20_any _).mono ?_
  rintro e w1 ⟨rfl, hb⟩
  have H1 := Lib.hid (And.intro (HV.out.1.trans (hb.mono HV.out.1.size)) (HV.out.2.below hb HV.out.2.lt))
  have c0 := H1.out.2.cell 0
  have c1 := H1.out.2.cell 1
  have c2 := H1.out.2.cell 2
  have c3 := H1.out.2.cell 3
  have c4 := H1.out.2.cell 4
  have c5 := H1.out.2.cell 5
  clear hb HV
  go_wp2_with (fail)
  refine (HSML.out _ (HM.out.1.below H1.out.1)).mono ?_
  rintro e w2 ⟨hsm, hb⟩
  have H2 := Lib.hid (And.intro (H1.out.1.trans (hb.mono H1.out.1.size)) (H1.out.2.below hb H1.out.2.lt))
  clear hb HSML H1 c0 c1 c2 c3 c4 c5
  rcases hsm with rfl | ⟨rfl, hsm⟩
  · go_wp2_with (fail)
    go_ret
    exact ⟨rfl, H2.out.1⟩
  have HSM := Lib.hid hsm
  clear hsm
  have HIn := Lib.hid (fun W (hW : Below w2.heap.size w2 W) => show m.In W from HM.out.1.below (H2.out.1.trans (hW.mono H2.out.1.size)))
  have hls := HSM.out.ls
  have hlh := HSM.out.lh
  have hle := HSM.out.le
  have HMS := Lib.hid (fun W (hW : Below w2.heap.size w2 W) => scrubMsg_any m z HSM.out HM.out.2.2.1 W (HIn.out W hW))
  have HAM := Lib.hid (fun W (hW : Below w2.heap.size w2 W) => all20_any m W (HIn.out W hW) ⟨by omega, by omega, by omega⟩)
  have HGM := Lib.hid (fun W (hW : Below w2.heap.size w2 W) => scrubGone_any m z HSM.out HM.out.2.2.1 W (HIn.out W hW))
  have HGC := Lib.hid (fun W (hW : Below w2.heap.size w2 W) => scrubGone_any m cs HSM.out HM.out.2.2.2 W (HIn.out W hW))
  have HWI := Lib.hid (fun W => Within_any cs z HM.out.2.2.2 HM.out.2.2.1 W)
  have HSUB := Lib.hid (fun r => @left_sub z.data.toList m.s m.h m.e r)
  have HG0 := gone_left z.data.toList m.s m.h m.e
  have HGE := gone_eq z.data.toList m.s m.h m.e
  have HGL : withinB cs.data.toList z.data.toList = true → goneN z.data.toList m.s m.h m.e ≤ goneN cs.data.toList m.s m.h m.e := fun h => nearer_gone (fun a ha => within_trans ha h) _ _ _
  have HSX : ∀ (qA : Option Addr) (qc : Nat) (sA : Option Addr) (sc : Nat) (hA : Option Addr) (hc : Nat) (eA : Option Addr) (ec : Nat), MRec.Small ⟨m.id, m.bi, qA, m.q, qc, sA, leftL z.data.toList m.s, sc, hA, leftL z.data.toList m.h, hc, eA, glueL z.data.toList m.s m.h m.e, ec⟩ := fun qA qc sA sc hA hc eA ec => by
    have h1 := left_len z.data.toList m.s
    have h2 := left_len z.data.toList m.h
    have h3 := glue_len z.data.toList m.s m.h m.e
    exact ⟨HSM.out.lq, Nat.le_trans h1 hls, Nat.le_trans h2 hlh, Nat.le_trans h3 hle, HSM.out.sq, left_small HSM.out.ss, left_small HSM.out.sh, fun e he => HSM.out.se e (left_stays (glue_left he)).1⟩
  have HXL : (leftL z.data.toList m.s).length ≤ 1000 ∧ (leftL z.data.toList m.h).length ≤ 1000 ∧ (glueL z.data.toList m.s m.h m.e).length ≤ 1000 := by
    have h1 := left_len z.data.toList m.s
    have h2 := left_len z.data.toList m.h
    have h3 := glue_len z.data.toList m.s m.h m.e
    exact ⟨by omega, by omega, by omega⟩
  obtain ⟨L1, hL1⟩ : ∃ L, leftL z.data.toList m.s = L := ⟨_, rfl⟩
  obtain ⟨L2, hL2⟩ : ∃ L, leftL z.data.toList m.h = L := ⟨_, rfl⟩
  obtain ⟨L3, hL3⟩ : ∃ L, glueL z.data.toList m.s m.h m.e = L := ⟨_, rfl⟩
  rw [hL1, hL2, hL3] at HMS HSUB HG0 HGE HSX HXL
  clear hL1 hL2 hL3
  obtain ⟨HAD, hHAD⟩ : ∃ L, m.s ++ m.h ++ m.e = L := ⟨_, rfl⟩
  obtain ⟨ALX, hALX⟩ : ∃ L, L1 ++ L2 ++ L3 = L := ⟨_, rfl⟩
  have hH60 : HAD.length ≤ 60 := by rw [← hHAD]; simp only [List.length_append]; omega
  have hA60 : ALX.length ≤ 3000 := by rw [← hALX]; simp only [List.length_append]; omega
  rw [hHAD] at HAM HSUB HGE
  rw [hALX] at HSUB HGE
  obtain ⟨G, hG⟩ : ∃ G, goneN z.data.toList m.s m.h m.e = G := ⟨_, rfl⟩
  obtain ⟨G2, hG2⟩ : ∃ G, goneN cs.data.toList m.s m.h m.e = G := ⟨_, rfl⟩
  rw [hG] at HGM HGE HGL
  rw [hG2] at HGC HGL
  have hGb : G ≤ 60 := by rw [← hG]; unfold goneN; omega
  have hG2b : G2 ≤ 60 := by rw [← hG2]; unfold goneN; omega
  have HGX := Lib.hid (fun (qA : Option Addr) (qc : Nat) (sA : Option Addr) (sc : Nat) (hA : Option Addr) (hc : Nat) (eA : Option Addr) (ec : Nat) W (hW : MRec.In ⟨m.id, m.bi, qA, m.q, qc, sA, L1, sc, hA, L2, hc, eA, L3, ec⟩ W) => show Calls Try.prog 18 #[.agg #[.int .u16 m.id, .int .u16 m.bi, .slice qA m.q.length qc, .slice sA L1.length sc, .slice hA L2.length hc, .slice eA L3.length ec], .string z] W (fun e w' => e = .returned (.int .i64 0) ∧ Below W.heap.size W w') from by
    have h := scrubGone_any _ z (HSX qA qc sA sc hA hc eA ec) HM.out.2.2.1 W hW
    dsimp only at h
    rw [HG0] at h
    exact h)
  have HAX := Lib.hid (fun (qA : Option Addr) (qc : Nat) (sA : Option Addr) (sc : Nat) (hA : Option Addr) (hc : Nat) (eA : Option Addr) (ec : Nat) W (hW : MRec.In ⟨m.id, m.bi, qA, m.q, qc, sA, L1, sc, hA, L2, hc, eA, L3, ec⟩ W) => show Calls Try.prog 20 #[.agg #[.int .u16 m.id, .int .u16 m.bi, .slice qA m.q.length qc, .slice sA L1.length sc, .slice hA L2.length hc, .slice eA L3.length ec]] W (CollPostR ALX W) from by
    have h := all20_any ⟨m.id, m.bi, qA, m.q, qc, sA, L1, sc, hA, L2, hc, eA, L3, ec⟩ W hW HXL
    dsimp only at h
    rw [hALX] at h
    exact h)
  have HGI := Lib.hid (show (G : Int) = (HAD.length : Int) - (ALX.length : Int) ∧ G ≤ 60 ∧ G2 ≤ 60 ∧ (withinB cs.data.toList z.data.toList = true → G ≤ G2) from ⟨HGE, hGb, hG2b, HGL⟩)
  have HLN := Lib.hid (And.intro hH60 hA60)
  have hHI : (HAD.length : Int) ≤ 60 := by omega
  have hAI : (ALX.length : Int) ≤ 3000 := by omega
  clear hG hG2 hHAD hALX HG0 HGE HGL hGb hG2b HSX HXL hls hlh hle hH60 hA60
  dsimp only [MRec.val] at HMS HAM HGM HGC
  have c0 := H2.out.2.cell 0
  have c1 := H2.out.2.cell 1
  have c2 := H2.out.2.cell 2
  have c3 := H2.out.2.cell 3
  have c4 := H2.out.2.cell 4
  have c5 := H2.out.2.cell 5
  go_wp2_with (fail)
  refine (HMS.out _ (Below.refl _ _)).mono ?_
  rintro e w3 ⟨qA, qc, sA, sc, hA, hc, eA, ec, rfl, hInX, hb⟩
  dsimp only [MRec.val]
  clear c0 c1 c2 c3 c4 c5
  obtain ⟨bx, hbx⟩ : ∃ bx, w3.heap.size = bx := ⟨_, rfl⟩
  obtain ⟨V, hV⟩ : ∃ V, w3.alloc (.cells #[.int .u16 m.id, .int .u16 m.bi, .slice qA m.q.length qc, .slice sA L1.length sc, .slice hA L2.length hc, .slice eA L3.length ec] 26) = V := ⟨_, rfl⟩
  have hbV : Below w3.heap.size w3 V := by rw [← hV]; exact below_alloc1 _ _
  have H3 := Lib.hid (show Below w2.heap.size w2 V ∧ Blk V w.heap.size 26 #[.int .u16 m.id, .int .u16 m.bi, .slice m.qA m.q.length m.qc, .slice m.sA m.s.length m.sc, .slice m.hA m.h.length m.hc, .slice m.eA m.e.length m.ec] ∧ Blk V bx 26 #[.int .u16 m.id, .int .u16 m.bi, .slice qA m.q.length qc, .slice sA L1.length sc, .slice hA L2.length hc, .slice eA L3.length ec] ∧ MRec.In ⟨m.id, m.bi, qA, m.q, qc, sA, L1, sc, hA, L2, hc, eA, L3, ec⟩ V from by
    have hb2 := hb.trans (hbV.mono hb.size)
    refine ⟨hb2, H2.out.2.below hb2 H2.out.2.lt, ?_, hInX.below hbV⟩
    rw [← hV, ← hbx]
    exact Blk.new _ _ _)
  have c0 := H3.out.2.1.cell 0
  have c1 := H3.out.2.1.cell 1
  have c2 := H3.out.2.1.cell 2
  have c3 := H3.out.2.1.cell 3
  have c4 := H3.out.2.1.cell 4
  have c5 := H3.out.2.1.cell 5
  clear hInX hb
  go_wp2_with (fail)
  clear hV hbx hbV
  refine (HAM.out _ H3.out.1).mono ?_
  rintro e w4 ⟨A4, k4, rfl, hS4, ho4, hb⟩
  have H4 := Lib.hid (And.intro (H3.out.1.trans (hb.mono H3.out.1.size)) (And.intro (H3.out.2.1.below hb H3.out.2.1.lt) (And.intro (H3.out.2.2.1.below hb H3.out.2.2.1.lt) (And.intro (H3.out.2.2.2.below hb) hS4))))
  clear hS4 ho4 hb H3 c0 c1 c2 c3 c4 c5
  have c0 := H4.out.2.2.1.cell 0
  have c1 := H4.out.2.2.1.cell 1
  have c2 := H4.out.2.2.1.cell 2
  have c3 := H4.out.2.2.1.cell 3
  have c4 := H4.out.2.2.1.cell 4
  have c5 := H4.out.2.2.1.cell 5
  go_wp2_with (fail)
  refine (HAX.out qA qc sA sc hA hc eA ec _ H4.out.2.2.2.1).mono ?_
  rintro e w5 ⟨A5, k5, rfl, hS5, ho5, hb⟩
  have H5 := Lib.hid (And.intro (H4.out.1.trans (hb.mono H4.out.1.size)) (And.intro (H4.out.2.1.below hb H4.out.2.1.lt) (And.intro (H4.out.2.2.1.below hb H4.out.2.2.1.lt) (And.intro (H4.out.2.2.2.1.below hb) (And.intro (H4.out.2.2.2.2.below hb H4.out.2.2.2.2.lt) hS5)))))
  clear hS5 ho5 hb H4 c0 c1 c2 c3 c4 c5
  obtain ⟨E, hE⟩ : ∃ E : RRec → RRec → Bool, ∀ a b, (∀ w, (binOp .eql 30 (.agg #[.string a.n, .int .u16 a.t, .int .u16 a.c, .int .u32 a.l, .string a.d]) (.agg #[.string b.n, .int .u16 b.t, .int .u16 b.c, .int .u32 b.l, .string b.d])).run Try.prog w = .ok (.bool (E a b)) w) ∧ (a = b → E a b = true) :=
    ⟨fun a b => Classical.choose (eql_ex a b), fun a b => Classical.choose_spec (eql_ex a b)⟩
  have HE := Lib.hid hE
  clear hE
  have hgt : Try.prog.eqGuardType Try.prog.depth 30 = false := by kernel_rfl
  go_wp2_with (fail)
  go_loopg [27] (ALX.length + 1) (fun gg v27 wr => ∃ k : Nat, v27 = .int .i64 (k : Int) ∧ k ≤ ALX.length ∧ Aside (gg + k = ALX.length + 1) ∧ Aside (Below w5.heap.size w5 wr))
  case atStart => exact ⟨0, rfl, by omega, rfl, Below.refl _ _⟩
  case round =>
    obtain ⟨k, rfl, hk, hg, hB⟩ := hrel
    by_cases hlt : k < ALX.length
    · obtain ⟨r, hr⟩ : ∃ r, ALX[k]? = some r := ⟨_, List.getElem?_eq_getElem hlt⟩
      have hltI : (k : Int) < (ALX.length : Int) := by omega
      have hrs := HSUB.out r (List.mem_of_getElem? hr)
      have hst := stays_parts hrs.2
      have HRS := Lib.hid (And.intro hrs.1 (And.intro hst.2.2.2.2 (isName_iff r.nb |>.1 hst.1)))
      have hcl : r.c = 1 := hst.2.2.1
      have RT := (rtab_of_sl H5.out.2.2.2.2.2).below hB.out
      obtain ⟨b, off, rfl, hbw, d0, d1, d2, d3, d4⟩ := RT.cells hr
      obtain ⟨rn, rt, rc, rl, rd⟩ := r
      dsimp only at hcl
      subst hcl
      clear hr hrs hst RT hlt
      go_wp2_with (fail)
      obtain ⟨wx, hwx⟩ : ∃ wx, wr.alloc (.cells #[.string rn, .int .u16 rt, .int .u16 1, .int .u32 rl, .string rd] 30) = wx := ⟨_, rfl⟩
      have HX := Lib.hid (show Below wr.heap.size wr wx ∧ Blk wx wr.heap.size 30 #[.string rn, .int .u16 rt, .int .u16 1, .int .u32 rl, .string rd] from by
        rw [← hwx]; exact ⟨below_alloc1 _ _, Blk.new _ _ _⟩)
      have HW := Lib.hid (show Below w5.heap.size w5 wx from hB.out.trans (HX.out.1.mono hB.out.size))
      rw [hwx]
      obtain ⟨br, hbr⟩ : ∃ br, wr.heap.size = br := ⟨_, rfl⟩
      rw [hbr] at HX ⊢
      have HBR := Lib.hid hbr
      clear hwx hbr d0 d1 d2 d3 d4 hbw
      obtain ⟨wo, rfl⟩ : ∃ wo : World, wo = wr := ⟨_, rfl⟩
      go_loopg [11, 33] (HAD.length + 1) (fun g2 v11 v33 ws => ∃ (j : Nat) (bq : Bool), v33 = .int .i64 (j : Int) ∧ v11 = .bool bq ∧ j ≤ HAD.length ∧ Aside (g2 + j = HAD.length + 1) ∧ Aside (bq = (HAD.take j).any (fun y => E y ⟨rn, rt, 1, rl, rd⟩) ∧ Below wx.heap.size wx ws))
      case atStart => exact ⟨0, false, rfl, rfl, by omega, rfl, by simp, Below.refl _ _⟩
      case round =>
        obtain ⟨j, bq, rfl, rfl, hj, hg2, hQ⟩ := hrel
        by_cases hlt2 : j < HAD.length
        · obtain ⟨y, hy⟩ : ∃ y, HAD[j]? = some y := ⟨_, List.getElem?_eq_getElem hlt2⟩
          have hltI2 : (j : Int) < (HAD.length : Int) := by omega
          have RT := ((rtab_of_sl H5.out.2.2.2.2.1).below HW.out).below hQ.out.2
          obtain ⟨b4, off4, rfl, hbw4, d0, d1, d2, d3, d4⟩ := RT.cells hy
          have HQX := Lib.hid (HX.out.2.below hQ.out.2 HX.out.2.lt)
          have f0 := HQX.out.cell 0
          have f1 := HQX.out.cell 1
          have f2 := HQX.out.cell 2
          have f3 := HQX.out.cell 3
          have f4 := HQX.out.cell 4
          have hblt : br < wr.heap.size := HQX.out.lt
          have HA := Lib.hid (show (HAD.take (j + 1)).any (fun y => E y ⟨rn, rt, 1, rl, rd⟩) = ((HAD.take j).any (fun y => E y ⟨rn, rt, 1, rl, rd⟩) || E y ⟨rn, rt, 1, rl, rd⟩) from by rw [take_at hy, List.any_append]; simp)
          obtain ⟨yn, yt, yc, yl, yd⟩ := y
          have hq := (HE.out ⟨yn, yt, yc, yl, yd⟩ ⟨rn, rt, 1, rl, rd⟩).1
          dsimp only at hq
          obtain ⟨bb, hbb⟩ : ∃ bb, E ⟨yn, yt, yc, yl, yd⟩ ⟨rn, rt, 1, rl, rd⟩ = bb := ⟨_, rfl⟩
          rw [hbb] at HA hq
          clear hbb hy RT hlt2 hbw4
          cases bq with
          | true =>
            clear hq f0 f1 f2 f3 f4
            go_wp2_with (fail)
            go_roundg (HAD.length - j)
            case measure => have := hg2.out; omega
            case rel => exact ⟨j + 1, true, by go_num, rfl, by omega, (show _ = _ by omega), by rw [HA.out, ← hQ.out.1]; rfl, hQ.out.2.alloc hQ.out.2.size _⟩
          | false =>
            go_wp2_with (fail)
            go_roundg (HAD.length - j)
            case measure => have := hg2.out; omega
            case rel => exact ⟨j + 1, bb, by go_num, rfl, by omega, (show _ = _ by omega), by rw [HA.out, ← hQ.out.1]; rfl, hQ.out.2.alloc hQ.out.2.size _⟩
        · have hltI2 : ¬ (j : Int) < (HAD.length : Int) := by omega
          have hbt : bq = true := by
            rw [hQ.out.1, List.take_of_length_le (by omega), List.any_eq_true]
            exact ⟨⟨rn, rt, 1, rl, rd⟩, HRS.out.1, (HE.out _ _).2 rfl⟩
          subst hbt
          have HQX := Lib.hid (HX.out.2.below hQ.out.2 HX.out.2.lt)
          have f0 := HQX.out.cell 0
          have HWN := Lib.hid (fun W => show Calls Try.prog 21 #[.string rn, .string z] W (fun e w' => e = .returned (.bool true) ∧ Below W.heap.size W w') from by
            have h := Within_any rn z (by have := HRS.out.2.2.1; have h9 : rn.data.toList.length ≤ 255 := this; simp at h9; unfold maxLen; omega) HM.out.2.2.1 W
            have h2 : withinB rn.data.toList z.data.toList = true := HRS.out.2.1
            rw [h2] at h
            exact h)
          clear hlt2
          go_wp2_with (go_at_call 21; refine (HWN.out _).mono ?_; rintro e w6 ⟨rfl, hb6⟩; have H6 := Lib.hid hb6; have g2 := (HQX.out.below hb6 HQX.out.lt).cell 2; clear hb6)
          go_roundg (ALX.length - k)
          case measure => have := hg.out; omega
          case rel => exact ⟨k + 1, by go_num, by omega, (show _ = _ by omega), (HW.out.trans (hQ.out.2.mono HW.out.size)).trans (H6.out.mono (by have := HW.out.size; have := hQ.out.2.size; omega))⟩
    · have hltI : ¬ (k : Int) < (ALX.length : Int) := by omega
      clear hlt
      go_wp2_with (fail)
      obtain ⟨W, rfl⟩ : ∃ W : World, W = wr := ⟨_, rfl⟩
      have HW := Lib.hid (show Below w2.heap.size w2 W ∧ Blk W w.heap.size 26 #[.int .u16 m.id, .int .u16 m.bi, .slice m.qA m.q.length m.qc, .slice m.sA m.s.length m.sc, .slice m.hA m.h.length m.hc, .slice m.eA m.e.length m.ec] ∧ Blk W bx 26 #[.int .u16 m.id, .int .u16 m.bi, .slice qA m.q.length qc, .slice sA L1.length sc, .slice hA L2.length hc, .slice eA L3.length ec] ∧ MRec.In ⟨m.id, m.bi, qA, m.q, qc, sA, L1, sc, hA, L2, hc, eA, L3, ec⟩ W from
        ⟨H5.out.1.trans (hB.out.mono H5.out.1.size), H5.out.2.1.below hB.out H5.out.2.1.lt, H5.out.2.2.1.below hB.out H5.out.2.2.1.lt, H5.out.2.2.2.1.below hB.out⟩)
      have HKA : RowKit.Hid (∀ w', Below W.heap.size W w' → w'.cell? ⟨w.heap.size, 0, none⟩ = some (.int .u16 m.id) ∧ w'.cell? ⟨w.heap.size, 1, none⟩ = some (.int .u16 m.bi) ∧ w'.cell? ⟨w.heap.size, 2, none⟩ = some (.slice m.qA m.q.length m.qc) ∧ w'.cell? ⟨w.heap.size, 3, none⟩ = some (.slice m.sA m.s.length m.sc) ∧ w'.cell? ⟨w.heap.size, 4, none⟩ = some (.slice m.hA m.h.length m.hc) ∧ w'.cell? ⟨w.heap.size, 5, none⟩ = some (.slice m.eA m.e.length m.ec) ∧ w'.cell? ⟨bx, 0, none⟩ = some (.int .u16 m.id) ∧ w'.cell? ⟨bx, 1, none⟩ = some (.int .u16 m.bi) ∧ w'.cell? ⟨bx, 2, none⟩ = some (.slice qA m.q.length qc) ∧ w'.cell? ⟨bx, 3, none⟩ = some (.slice sA L1.length sc) ∧ w'.cell? ⟨bx, 4, none⟩ = some (.slice hA L2.length hc) ∧ w'.cell? ⟨bx, 5, none⟩ = some (.slice eA L3.length ec) ∧ Below W.heap.size W w') := Lib.hid (fun w' hb => by
        have k0 := HW.out.2.1.below hb HW.out.2.1.lt
        have k1 := HW.out.2.2.1.below hb HW.out.2.2.1.lt
        exact ⟨k0.cell 0, k0.cell 1, k0.cell 2, k0.cell 3, k0.cell 4, k0.cell 5, k1.cell 0, k1.cell 1, k1.cell 2, k1.cell 3, k1.cell 4, k1.cell 5, hb⟩)
      have HW2 := Lib.hid (fun W' (hW' : Below W.heap.size W W') => show Below w2.heap.size w2 W' from HW.out.1.trans (hW'.mono HW.out.1.size))
      have HGM2 := Lib.hid (fun W' (hW' : Below W.heap.size W W') => show Calls Try.prog 18 #[.agg #[.int .u16 m.id, .int .u16 m.bi, .slice m.qA m.q.length m.qc, .slice m.sA m.s.length m.sc, .slice m.hA m.h.length m.hc, .slice m.eA m.e.length m.ec], .string z] W' (fun e w' => e = .returned (.int .i64 ((HAD.length : Int) - (ALX.length : Int))) ∧ Below W'.heap.size W' w') from by
        have h := HGM.out W' (HW2.out W' hW')
        rw [HGI.out.1] at h
        exact h)
      have hd0 : 0 ≤ (HAD.length : Int) - (ALX.length : Int) := by have := HGI.out.1; omega
      have hwrap : IntKind.i64.wrap ((HAD.length : Int) - (ALX.length : Int)) = (HAD.length : Int) - (ALX.length : Int) := by rw [IntKind.wrap_i64]; omega
      have R0 : Below W.heap.size W W := Below.refl _ _
      go_region_held3 (fun w' => w'.cell? ⟨w.heap.size, 0, none⟩ = some (.int .u16 m.id) ∧ w'.cell? ⟨w.heap.size, 1, none⟩ = some (.int .u16 m.bi) ∧ w'.cell? ⟨w.heap.size, 2, none⟩ = some (.slice m.qA m.q.length m.qc) ∧ w'.cell? ⟨w.heap.size, 3, none⟩ = some (.slice m.sA m.s.length m.sc) ∧ w'.cell? ⟨w.heap.size, 4, none⟩ = some (.slice m.hA m.h.length m.hc) ∧ w'.cell? ⟨w.heap.size, 5, none⟩ = some (.slice m.eA m.e.length m.ec) ∧ w'.cell? ⟨bx, 0, none⟩ = some (.int .u16 m.id) ∧ w'.cell? ⟨bx, 1, none⟩ = some (.int .u16 m.bi) ∧ w'.cell? ⟨bx, 2, none⟩ = some (.slice qA m.q.length qc) ∧ w'.cell? ⟨bx, 3, none⟩ = some (.slice sA L1.length sc) ∧ w'.cell? ⟨bx, 4, none⟩ = some (.slice hA L2.length hc) ∧ w'.cell? ⟨bx, 5, none⟩ = some (.slice eA L3.length ec) ∧ Below W.heap.size W w')
        (first | with_reducible assumption | with_reducible exact HKA.out _ R0 | with_reducible exact HKA.out _ R0.drew | with_reducible exact HKA.out _ (step_b2 (last13 (by assumption)) hb8) | with_reducible exact HKA.out _ (step_b2 (last13 (by assumption)) hb7) | with_reducible exact HKA.out _ (step_b2 (last13 (by assumption)) hb6))
        (first
          | (go_at_call 18; (with_reducible refine (HGX.out qA qc sA sc hA hc eA ec _ (HW.out.2.2.2.below (last13 (by assumption)))).mono ?_); rintro e w6 ⟨rfl, hb6⟩)
          | (go_at_call 18; (with_reducible refine (HGM2.out _ (last13 (by assumption))).mono ?_); rintro e w7 ⟨rfl, hb7⟩)
          | (go_at_call 20; (with_reducible refine (HAX.out qA qc sA sc hA hc eA ec _ (HW.out.2.2.2.below (last13 (by assumption)))).mono ?_); rintro e w8 ⟨A8, k8, rfl, hS8, ho8, hb8⟩))
      all_goals
        have hB8 : Below W.heap.size W _ := (last13 (by assumption))
        have H8 := Lib.hid (And.intro (HW2.out _ hB8) (HW.out.2.1.below hB8 HW.out.2.1.lt))
        clear hB8
        go_wp2_with (fail)
        obtain ⟨U, rfl⟩ : ∃ U : World, U = w8 := ⟨_, rfl⟩
        have HU := Lib.hid (fun W' (hW' : Below U.heap.size U W') => show Below w2.heap.size w2 W' from H8.out.1.trans (hW'.mono H8.out.1.size))
        obtain ⟨wi, hwi⟩ : ∃ wi, withinB cs.data.toList z.data.toList = wi := ⟨_, rfl⟩
        have HWI2 := Lib.hid (fun W' => show Calls Try.prog 21 #[.string cs, .string z] W' (fun e w' => e = .returned (.bool wi) ∧ Below W'.heap.size W' w') from by
          have h := HWI.out W'
          rw [hwi] at h
          exact h)
        have HGL := Lib.hid (fun h : wi = true => HGI.out.2.2.2 (hwi.trans h))
        clear hwi
        cases wi with
        | false =>
          clear hd0 hwrap
          have hHeld0 : Below U.heap.size U U.drew := (Below.refl U.heap.size U).drew
          refine wp_region_held_drew (S := fun w' => Below U.heap.size U w') (by kernel_rfl) hHeld0 (fun _ => ?_)
          try simp only [List.getElem_toArray, List.getElem_cons_zero, List.getElem_cons_succ, Act.put, List.setIfInBounds_toArray, List.set_cons_zero, List.set_cons_succ]
          refine wpAnyH_take (i := 0) (v := .string cs) rfl (by kernel_rfl) (by kernel_rfl) (by kernel_rfl) (fun _ _ _ h => h) (Or.inl ⟨by rfl, ?_⟩) (by assumption) ?_
          · intro w hSw; (try dsimp only at hSw); go_simp
          try simp only [List.getElem_toArray, List.getElem_cons_zero, List.getElem_cons_succ, Act.put, List.setIfInBounds_toArray, List.set_cons_zero, List.set_cons_succ]
          refine wpAnyH_take (i := 1) (v := .string z) rfl (by kernel_rfl) (by kernel_rfl) (by kernel_rfl) (fun _ _ _ h => h) (Or.inl ⟨by rfl, ?_⟩) (by assumption) ?_
          · intro w hSw; (try dsimp only at hSw); go_simp
          try simp only [List.getElem_toArray, List.getElem_cons_zero, List.getElem_cons_succ, Act.put, List.setIfInBounds_toArray, List.set_cons_zero, List.set_cons_succ]
          refine wpAnyH_ready (rs := [2]) (by kernel_rfl) (by simp) ?_
          refine AllReadyH.cons rfl (fun K hK => ?_) AllReadyH.nil
          go_simp
          (go_at_call 21; refine (HWI2.out _).mono ?_; rintro e w9 ⟨rfl, hb9⟩)
          try go_wp2_with (fail)
          have hHeld1 : Below U.heap.size U w9 := hHeld0.trans hb9
          refine hK.out _ _ hHeld1 (fun hHeld => ?_)
          clear hK K hHeld0 hHeld hb9
          try simp only [List.getElem_toArray, List.getElem_cons_zero, List.getElem_cons_succ, Act.put, List.setIfInBounds_toArray, List.set_cons_zero, List.set_cons_succ]
          refine wpAnyH_take (i := 3) (v := .bool true) rfl (by kernel_rfl) (by kernel_rfl) (by kernel_rfl) (fun _ _ _ h => h) (Or.inl ⟨by rfl, ?_⟩) (by assumption) ?_
          · intro w hSw; (try dsimp only at hSw); go_simp
          try simp only [List.getElem_toArray, List.getElem_cons_zero, List.getElem_cons_succ, Act.put, List.setIfInBounds_toArray, List.set_cons_zero, List.set_cons_succ]
          refine wpAnyH_take (i := 4) (v := .bool true) rfl (by kernel_rfl) (by kernel_rfl) (by kernel_rfl) (fun _ _ _ h => h) (Or.inl ⟨by rfl, ?_⟩) (by assumption) ?_
          · intro w hSw; (try dsimp only at hSw); go_simp
          try simp only [List.getElem_toArray, List.getElem_cons_zero, List.getElem_cons_succ, Act.put, List.setIfInBounds_toArray, List.set_cons_zero, List.set_cons_succ]
          refine wpAnyH_take (i := 5) (v := undef) rfl (by kernel_rfl) (by kernel_rfl) (by kernel_rfl) (fun _ _ _ h => h) (Or.inr ⟨by rfl, rfl⟩) (by assumption) ?_
          try simp only [List.getElem_toArray, List.getElem_cons_zero, List.getElem_cons_succ, Act.put, List.setIfInBounds_toArray, List.set_cons_zero, List.set_cons_succ]
          refine wpAnyH_take (i := 6) (v := undef) rfl (by kernel_rfl) (by kernel_rfl) (by kernel_rfl) (fun _ _ _ h => h) (Or.inr ⟨by rfl, rfl⟩) (by assumption) ?_
          try simp only [List.getElem_toArray, List.getElem_cons_zero, List.getElem_cons_succ, Act.put, List.setIfInBounds_toArray, List.set_cons_zero, List.set_cons_succ]
          refine wpAnyH_take (i := 7) (v := undef) rfl (by kernel_rfl) (by kernel_rfl) (by kernel_rfl) (fun _ _ _ h => h) (Or.inr ⟨by rfl, rfl⟩) (by assumption) ?_
          try simp only [List.getElem_toArray, List.getElem_cons_zero, List.getElem_cons_succ, Act.put, List.setIfInBounds_toArray, List.set_cons_zero, List.set_cons_succ]
          refine wpAnyH_take (i := 8) (v := undef) rfl (by kernel_rfl) (by kernel_rfl) (by kernel_rfl) (fun _ _ _ h => h) (Or.inr ⟨by rfl, rfl⟩) (by assumption) ?_
          try simp only [List.getElem_toArray, List.getElem_cons_zero, List.getElem_cons_succ, Act.put, List.setIfInBounds_toArray, List.set_cons_zero, List.set_cons_succ]
          refine wpAnyH_take (i := 9) (v := undef) rfl (by kernel_rfl) (by kernel_rfl) (by kernel_rfl) (fun _ _ _ h => h) (Or.inr ⟨by rfl, rfl⟩) (by assumption) ?_
          try simp only [List.getElem_toArray, List.getElem_cons_zero, List.getElem_cons_succ, Act.put, List.setIfInBounds_toArray, List.set_cons_zero, List.set_cons_succ]
          refine wpAnyH_take (i := 10) (v := undef) rfl (by kernel_rfl) (by kernel_rfl) (by kernel_rfl) (fun _ _ _ h => h) (Or.inr ⟨by rfl, rfl⟩) (by assumption) ?_
          try simp only [List.getElem_toArray, List.getElem_cons_zero, List.getElem_cons_succ, Act.put, List.setIfInBounds_toArray, List.set_cons_zero, List.set_cons_succ]
          refine wpAnyH_take (i := 11) (v := undef) rfl (by kernel_rfl) (by kernel_rfl) (by kernel_rfl) (fun _ _ _ h => h) (Or.inr ⟨by rfl, rfl⟩) (by assumption) ?_
          try simp only [List.getElem_toArray, List.getElem_cons_zero, List.getElem_cons_succ, Act.put, List.setIfInBounds_toArray, List.set_cons_zero, List.set_cons_succ]
          refine wpAnyH_take (i := 12) (v := .bool true) rfl (by kernel_rfl) (by kernel_rfl) (by kernel_rfl) (fun _ _ _ h => h) (Or.inl ⟨by rfl, ?_⟩) (by assumption) ?_
          · intro w hSw; (try dsimp only at hSw); go_simp
          try simp only [List.getElem_toArray, List.getElem_cons_zero, List.getElem_cons_succ, Act.put, List.setIfInBounds_toArray, List.set_cons_zero, List.set_cons_succ]
          refine wpAnyH_take (i := 13) (v := .bool true) rfl (by kernel_rfl) (by kernel_rfl) (by kernel_rfl) (fun _ _ _ h => h) (Or.inl ⟨by rfl, ?_⟩) (by assumption) ?_
          · intro w hSw; (try dsimp only at hSw); go_simp
          try simp only [List.getElem_toArray, List.getElem_cons_zero, List.getElem_cons_succ, Act.put, List.setIfInBounds_toArray, List.set_cons_zero, List.set_cons_succ]
          refine wpAnyH_done (by kernel_rfl) ?_ _
          have H9 := Lib.hid hHeld1
          clear hHeld1
          go_wp2_with (fail)
          go_ret
          exact ⟨rfl, (H2.out.1.trans ((HU.out _ H9.out).mono H2.out.1.size))⟩
        | true =>
          have hgg : (HAD.length : Int) - (ALX.length : Int) ≤ (G2 : Int) := by have := HGL.out rfl; have := HGI.out.1; omega
          have hg2 : (G2 : Int) ≤ 60 := by have := HGI.out.2.2.1; omega
          have HKB : RowKit.Hid (∀ w', Below U.heap.size U w' → w'.cell? ⟨w.heap.size, 0, none⟩ = some (.int .u16 m.id) ∧ w'.cell? ⟨w.heap.size, 1, none⟩ = some (.int .u16 m.bi) ∧ w'.cell? ⟨w.heap.size, 2, none⟩ = some (.slice m.qA m.q.length m.qc) ∧ w'.cell? ⟨w.heap.size, 3, none⟩ = some (.slice m.sA m.s.length m.sc) ∧ w'.cell? ⟨w.heap.size, 4, none⟩ = some (.slice m.hA m.h.length m.hc) ∧ w'.cell? ⟨w.heap.size, 5, none⟩ = some (.slice m.eA m.e.length m.ec) ∧ Below U.heap.size U w') := Lib.hid (fun w' hb => by
            have k0 := H8.out.2.below hb H8.out.2.lt
            exact ⟨k0.cell 0, k0.cell 1, k0.cell 2, k0.cell 3, k0.cell 4, k0.cell 5, hb⟩)
          have HGM3 := Lib.hid (fun W' (hW' : Below U.heap.size U W') => show Calls Try.prog 18 #[.agg #[.int .u16 m.id, .int .u16 m.bi, .slice m.qA m.q.length m.qc, .slice m.sA m.s.length m.sc, .slice m.hA m.h.length m.hc, .slice m.eA m.e.length m.ec], .string z] W' (fun e w' => e = .returned (.int .i64 ((HAD.length : Int) - (ALX.length : Int))) ∧ Below W'.heap.size W' w') from by
            have h := HGM.out W' (HU.out W' hW')
            rw [HGI.out.1] at h
            exact h)
          have R1 : Below U.heap.size U U := Below.refl _ _
          go_region_held3 (fun w' => w'.cell? ⟨w.heap.size, 0, none⟩ = some (.int .u16 m.id) ∧ w'.cell? ⟨w.heap.size, 1, none⟩ = some (.int .u16 m.bi) ∧ w'.cell? ⟨w.heap.size, 2, none⟩ = some (.slice m.qA m.q.length m.qc) ∧ w'.cell? ⟨w.heap.size, 3, none⟩ = some (.slice m.sA m.s.length m.sc) ∧ w'.cell? ⟨w.heap.size, 4, none⟩ = some (.slice m.hA m.h.length m.hc) ∧ w'.cell? ⟨w.heap.size, 5, none⟩ = some (.slice m.eA m.e.length m.ec) ∧ Below U.heap.size U w')
            (first | with_reducible assumption | with_reducible exact HKB.out _ R1 | with_reducible exact HKB.out _ R1.drew | with_reducible exact HKB.out _ (step_b2 (last7 (by assumption)) hb11) | with_reducible exact HKB.out _ (step_b2 (last7 (by assumption)) hb10) | with_reducible exact HKB.out _ (step_b2 (last7 (by assumption)) hb9))
            (first
              | (go_at_call 21; (with_reducible refine (HWI2.out _).mono ?_); rintro e w9 ⟨rfl, hb9⟩)
              | (go_at_call 18; (with_reducible refine (HGC.out _ (HU.out _ (last7 (by assumption)))).mono ?_); rintro e wa ⟨rfl, hb10⟩)
              | (go_at_call 18; (with_reducible refine (HGM3.out _ (last7 (by assumption))).mono ?_); rintro e wb ⟨rfl, hb11⟩))
          all_goals
            have hB9 : Below U.heap.size U _ := (last7 (by assumption))
            have H9 := Lib.hid (H2.out.1.trans ((HU.out _ hB9).mono H2.out.1.size))
            clear hB9
            go_wp2_with (fail)
            go_ret
            exact ⟨by simp [hgg], H9.out⟩
end Go.Proofs.Ythjkdpphbipgfaa
