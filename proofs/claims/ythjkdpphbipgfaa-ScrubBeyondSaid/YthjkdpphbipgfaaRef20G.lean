/- The walk of hardtackref20.Glue. Conditions: none. -/
import Derived.Test.YthjkdpphbipgfaaRef20
import Derived.Test.YthjkdpphbipgfaaFlatV
import Derived.Test.YthjkdpphbipgfaaRef04E
import Derived.Test.YthjkdpphbipgfaaRefFold
import Derived.Deep.RegionHeld3
namespace Go.Proofs.Ythjkdpphbipgfaa
open Go.RowKit Go.Shelf Go.Lib

theorem strs_one20 (xs : List Bs) : ∀ u ∈ strs xs, u.oneCell' = true := by
  intro u hu
  obtain ⟨x, _, rfl⟩ := List.mem_map.1 hu
  rfl
theorem strs_app20 (a b : List Bs) : strs (a ++ b) = strs a ++ strs b := by simp [strs]
theorem sameB_names {a b : Bs} (ha : isName a = true) (hb : isName b = true) : sameB a b = (foldB a == foldB b) := by
  unfold sameB
  rw [ha, hb]
  by_cases h : foldB a = foldB b
  · have h2 := congrArg List.length h
    rw [foldB_length, foldB_length] at h2
    simp [h, h2]
  · simp [h]
theorem last3 {a b c : Prop} (H : a ∧ b ∧ c) : c := H.2.2
theorem keepG {V W w' : World} {g : Nat} {x3 x4 : Option Value} (hg : g < V.heap.size) (H : W.cell? ⟨g, 3, none⟩ = x3 ∧ W.cell? ⟨g, 4, none⟩ = x4 ∧ Below V.heap.size V W) (hw : Below W.heap.size W w') :
    w'.cell? ⟨g, 3, none⟩ = x3 ∧ w'.cell? ⟨g, 4, none⟩ = x4 ∧ Below V.heap.size V w' := by
  have h := H.2.2.size
  exact ⟨(hw.cell (p := ⟨g, 3, none⟩) (by show g < _; omega)).trans H.1, (hw.cell (p := ⟨g, 4, none⟩) (by show g < _; omega)).trans H.2.1, H.2.2.trans (hw.mono h)⟩
theorem keepGd {V W : World} {g : Nat} {x3 x4 : Option Value} (H : W.cell? ⟨g, 3, none⟩ = x3 ∧ W.cell? ⟨g, 4, none⟩ = x4 ∧ Below V.heap.size V W) :
    W.drew.cell? ⟨g, 3, none⟩ = x3 ∧ W.drew.cell? ⟨g, 4, none⟩ = x4 ∧ Below V.heap.size V W.drew := ⟨H.1, H.2.1, H.2.2.drew⟩
theorem keepGg {V W w' : World} {g : Nat} {x3 x4 : Option Value} {row : Option Nat} (hg : g < V.heap.size) (H : W.cell? ⟨g, 3, none⟩ = x3 ∧ W.cell? ⟨g, 4, none⟩ = x4 ∧ Below V.heap.size V W) (hw : W.grownBy w' row) (hr : ∀ i, row = some i → V.heap.size ≤ i) :
    w'.cell? ⟨g, 3, none⟩ = x3 ∧ w'.cell? ⟨g, 4, none⟩ = x4 ∧ Below V.heap.size V w' := by
  have h := H.2.2.size
  have hb : w'.heap[g]? = W.heap[g]? := hw.block g (by omega) (fun e => by have := hr g e.symm; omega)
  exact ⟨(World.cell?_of_block (a := ⟨g, 3, none⟩) hb).trans H.1, (World.cell?_of_block (a := ⟨g, 4, none⟩) hb).trans H.2.1, H.2.2.grown hw h hr⟩
theorem glue_end {ws wt w7 w9 : World} {n2 c2 c3 j : Nat} {A8 A3 : Option Addr} {L3 : List RRec} {hs : List Bs} {x : RRec} {o : Obj} {gg : Nat}
    (h : n2 = ((L3.take j).filter (glueB hs)).length ∧ Sl ws 5 (.slice A8 n2 c2) n2 (flatV RRec.vs ((L3.take j).filter (glueB hs))) ∧ (∀ g, (Value.slice A8 n2 c2).ownBlock = some g → w7.heap.size ≤ g) ∧ Below w7.heap.size w7 ws)
    (hb : Below ws.heap.size ws wt) (hs3 : Sl w9 5 (.slice A3 (n2 + 1) c3) (n2 + 1) (flatV RRec.vs ((L3.take j).filter (glueB hs)) ++ flatV RRec.vs [x])) (hg3 : (wt.alloc o).grownBy w9 (Value.slice A8 n2 c2).ownBlock)
    (hv3 : (Value.slice A3 (n2 + 1) c3).ownBlock = (Value.slice A8 n2 c2).ownBlock ∨ (Value.slice A3 (n2 + 1) c3).ownBlock = some (wt.alloc o).heap.size) (hP : (L3.take (j + 1)).filter (glueB hs) = (L3.take j).filter (glueB hs) ++ [x])
    (hj : j < L3.length) (hgg : gg + j = L3.length + 1) :
    ∃ (j' n2' c2' : Nat) (A8' : Option Addr), (Value.int .i64 ((j : Int) + 1)) = .int .i64 (j' : Int) ∧ Value.slice A3 (n2 + 1) c3 = .slice A8' n2' c2' ∧ j' ≤ L3.length ∧ Aside (L3.length - j + j' = L3.length + 1) ∧
      Aside (n2' = ((L3.take j').filter (glueB hs)).length ∧ Sl w9 5 (.slice A8' n2' c2') n2' (flatV RRec.vs ((L3.take j').filter (glueB hs))) ∧ (∀ g, (Value.slice A8' n2' c2').ownBlock = some g → w7.heap.size ≤ g) ∧ Below w7.heap.size w7 w9) := by
  obtain ⟨h1, h2, h3, h4⟩ := h
  have z1 := h4.size
  have z2 := hb.size
  refine ⟨j + 1, n2 + 1, c3, A3, by go_num, rfl, by omega, (show _ = _ by omega), ?_, ?_, own_from h3 (by simp; omega) hv3, ?_⟩
  · rw [hP, List.length_append, ← h1]; rfl
  · rw [hP, flatV_append]; exact hs3
  · exact ((h4.trans (hb.mono z1)).alloc (by omega) _).grown hg3 (by simp; omega) (fun g hg => h3 g hg)

set_option maxRecDepth 100000 in
set_option maxHeartbeats 8000000 in
theorem rGlue_any (m : MRec) (z : ByteArray) (hs : m.Small) (hz : z.size ≤ maxLen) (w : World) (hm : m.In w) :
    Calls Try.prog 15 #[m.val, .string z] w (CollPostR (glueL z.data.toList m.s m.h m.e) w) := by
  obtain ⟨i0, hi0, hz0, hz1, hz2⟩ := info_parts info_rr
  obtain ⟨j0, hj0, hy0, hy1, hy2⟩ := info_parts info_str
  have HM := Lib.hid (And.intro hm (And.intro hs hz))
  clear hm hs hz
  dsimp only [MRec.val]
  go_enter Try.func15, Try.ntmps15
  go_wp2_with (fail)
  obtain ⟨V, hV⟩ : ∃ W1, w.alloc (.cells #[.int .u16 m.id, .int .u16 m.bi, .slice m.qA m.q.length m.qc, .slice m.sA m.s.length m.sc, .slice m.hA m.h.length m.hc, .slice m.eA m.e.length m.ec] 26) = W1 := ⟨_, rfl⟩
  have BV := Lib.hid (show Below w.heap.size w V from by rw [← hV]; exact (Below.refl _ _).alloc (Nat.le_refl _) _)
  have XV := Lib.hid (show Blk V w.heap.size 26 #[.int .u16 m.id, .int .u16 m.bi, .slice m.qA m.q.length m.qc, .slice m.sA m.s.length m.sc, .slice m.hA m.h.length m.hc, .slice m.eA m.e.length m.ec] from by rw [← hV]; exact Blk.new _ _ _)
  rw [hV]
  clear hV
  have c3 := XV.out.cell 3
  have c4 := XV.out.cell 4
  have hgV : w.heap.size < V.heap.size := XV.out.lt
  have hrefl : Below V.heap.size V V := Below.refl _ _
  have HLS := Lib.hid (fun W (hW : Below V.heap.size V W) => left_any m.s m.sA m.sc z HM.out.2.2 W ((HM.out.1.ts.below BV.out).below hW) HM.out.2.1.ss HM.out.2.1.ls)
  have HLH := Lib.hid (fun W (hW : Below V.heap.size V W) => left_any m.h m.hA m.hc z HM.out.2.2 W ((HM.out.1.th.below BV.out).below hW) HM.out.2.1.sh HM.out.2.1.lh)
  obtain ⟨L1, hL1⟩ : ∃ L, leftL z.data.toList m.s = L := ⟨_, rfl⟩
  obtain ⟨L2, hL2⟩ : ∃ L, leftL z.data.toList m.h = L := ⟨_, rfl⟩
  have HLL := Lib.hid (show leftL z.data.toList (m.s ++ m.h) = L1 ++ L2 ∧ L1.length ≤ 20 ∧ L2.length ≤ 20 ∧ (∀ e ∈ L1 ++ L2, e.small) from by
    refine ⟨by rw [left_append, hL1, hL2], ?_, ?_, ?_⟩
    · rw [← hL1]; exact Nat.le_trans (left_len _ _) HM.out.2.1.ls
    · rw [← hL2]; exact Nat.le_trans (left_len _ _) HM.out.2.1.lh
    · rw [← hL1, ← hL2, ← left_append]
      exact left_small fun e he => by
        rcases List.mem_append.1 he with h | h
        · exact HM.out.2.1.ss e h
        · exact HM.out.2.1.sh e h)
  rw [hL1] at HLS
  rw [hL2] at HLH
  clear hL1 hL2
  have l1 := HLL.out.2.1
  have l2 := HLL.out.2.2.1
  go_region_held3 (fun w' => w'.cell? ⟨w.heap.size, 3, none⟩ = some (.slice m.sA m.s.length m.sc) ∧ w'.cell? ⟨w.heap.size, 4, none⟩ = some (.slice m.hA m.h.length m.hc) ∧ Below V.heap.size V w')
    (first | assumption | exact ⟨c3, c4, hrefl⟩ | exact keepGd ⟨c3, c4, hrefl⟩ | exact keepG hgV (by assumption) hb1 | exact keepG hgV (keepGd ⟨c3, c4, hrefl⟩) hb1 | exact keepG hgV (by assumption) hb2 | exact keepGg hgV (by assumption) hg5 ho1)
    (first
      | (go_at_call 40; (with_reducible refine (HLS.out _ (last3 (by assumption))).mono ?_); rintro e w3 ⟨A1, k1, rfl, hS1, ho1, hb1⟩)
      | (go_at_call 40; (with_reducible refine (HLH.out _ (last3 (by assumption))).mono ?_); rintro e w4 ⟨A2, k2, rfl, hS2, ho2, hb2⟩)
      | (refine step_append_sl _ (by rfl) (.tmp 17) (.tmp 21) 24 24 rfl 30 i0 (.agg #[.string ⟨#[]⟩, .int .u16 0, .int .u16 0, .int .u32 0, .string ⟨#[]⟩]) 5 40 Try.underlying24 hi0 hz0 hz1 hz2 rfl (.slice A1 L1.length k1) L1.length (flatV RRec.vs L1) rfl (hS1.below hb2 hS1.lt) (.slice A2 L2.length k2) rfl L2.length (flatV RRec.vs L2) (src_reads Try.underlying24 ((rtab_of_sl hS2).reads RRec.five (by decide)) (rr_one _)) (by unfold maxLen; omega) (by omega) ?_; intro v5 w5 hs5 hg5 hv5; obtain ⟨A5, k5, rfl, hk5, hm5⟩ := hs5.shape))
  have hB5 : Below V.heap.size V w5 := last3 (by assumption)
  obtain ⟨LL, hLL⟩ : ∃ LL, L1 ++ L2 = LL := ⟨_, rfl⟩
  obtain ⟨N, hN⟩ : ∃ N, L1.length + L2.length = N := ⟨_, rfl⟩
  have hNI : ((L1.length : Int) + (L2.length : Int)) = (N : Int) := by omega
  have hNL : LL.length = N := by rw [← hLL, List.length_append, hN]
  have hN40 : N ≤ 40 := by omega
  rw [hNI, hN]
  rw [hN, ← flatV_append, hLL] at hs5
  have H5 := Lib.hid (And.intro hs5 (And.intro hB5 (And.intro hNL (show leftL z.data.toList (m.s ++ m.h) = LL ∧ ∀ e ∈ LL, e.small from by rw [← hLL]; exact ⟨HLL.out.1, HLL.out.2.2.2⟩))))
  clear hB5 hs5 hg5 hv5 hk5 hm5 hS1 hS2 ho1 ho2 hb1 hb2 HLS HLH HLL l1 l2 hNI hN hNL hLL hrefl c3 c4
  rename_i hHeld
  clear hHeld
  have hNI : (N : Int) ≤ 40 := by omega
  go_wp2_with (fail)
  go_loopg [5, 24] (N + 1) (fun gg v5 v24 wr => ∃ (k n c : Nat) (A2 : Option Addr), v24 = .int .i64 (k : Int) ∧ v5 = .slice A2 n c ∧ k ≤ N ∧ Aside (gg + k = N + 1) ∧
    Aside (n = (hostsL (LL.take k)).length ∧ Sl wr 1 (.slice A2 n c) n (strs (hostsL (LL.take k))) ∧ (∀ g, (Value.slice A2 n c).ownBlock = some g → w5.heap.size ≤ g) ∧ Below w5.heap.size w5 wr))
  case atStart => exact ⟨0, 0, 0, none, rfl, rfl, by omega, rfl, by simp [hostsL], Sl.nil _ _, fun g hg => by simp [Value.ownBlock] at hg, Below.refl _ _⟩
  case round =>
    obtain ⟨k, n, c, A2, rfl, rfl, hk, hg, hI⟩ := hrel
    by_cases hlt : k < N
    · obtain ⟨r, hr⟩ : ∃ r, LL[k]? = some r := ⟨_, List.getElem?_eq_getElem (by have := H5.out.2.2.1; omega)⟩
      have hltI : (k : Int) < (N : Int) := by omega
      have hrs := H5.out.2.2.2.2 r (List.mem_of_getElem? hr)
      have hnl : n ≤ 80 := by
        have h1 := hI.out.1
        have h2 := hosts_len (LL.take k)
        simp only [List.length_take] at h2
        omega
      obtain ⟨gn, cap, hv, hgn, hc1, hc2, hcell⟩ := H5.out.1.form (by omega)
      injection hv with hA _ hcc
      subst hA
      subst hcc
      have hcell2 : ∀ i u, r.vs[i]? = some u → wr.cell? ⟨gn, k * 5 + i, none⟩ = some u := fun i u hu => (hI.out.2.2.2.cell (p := ⟨gn, k * 5 + i, none⟩) hgn).trans (hcell _ u (flatV_at RRec.five LL k r i u hr hu))
      have d0 : wr.cell? ⟨gn, k * 5, none⟩ = some (.string r.n) := hcell2 0 _ rfl
      have d1 : wr.cell? ⟨gn, k * 5 + 1, none⟩ = some (.int .u16 r.t) := hcell2 1 _ rfl
      have d2 : wr.cell? ⟨gn, k * 5 + 2, none⟩ = some (.int .u16 r.c) := hcell2 2 _ rfl
      have d3 : wr.cell? ⟨gn, k * 5 + 3, none⟩ = some (.int .u32 r.l) := hcell2 3 _ rfl
      have d4 : wr.cell? ⟨gn, k * 5 + 4, none⟩ = some (.string r.d) := hcell2 4 _ rfl
      have HN := Lib.hid (fun W => rNames4_any r.t r.d (by have := hrs.2; omega) W)
      have HP := Lib.hid (show hostsL (LL.take (k + 1)) = hostsL (LL.take k) ++ (if r.t = 2 then namesR r else []) from by rw [take_at hr, hosts_snoc])
      have HNL := Lib.hid (namesR_len r)
      have HNR := Lib.hid (show ((lookN r.t r.db).map (·.2.1)).getD [] = namesR r from rfl)
      obtain ⟨ns, hns⟩ : ∃ ns, namesR r = ns := ⟨_, rfl⟩
      obtain ⟨rn, rt, rc, rl, rd⟩ := r
      rw [hns] at HP HNL HNR
      clear hr hrs hlt hcell hcell2 hns hc1 hc2
      by_cases ht : rt = 2
      case neg =>
        have q1 : (rt == 2) = false := by simp [ht]
        have hP := HP.out
        simp only [if_neg ht, List.append_nil] at hP
        have HP2 := Lib.hid hP
        clear HP hP ht
        go_wp2_with (fail)
        go_roundg (N - k)
        case measure => have := hg.out; omega
        case rel =>
          obtain ⟨h1, h2, h3, h4⟩ := hI.out
          have hb : Below wr.heap.size wr (wr.alloc (.cells #[.string rn, .int .u16 rt, .int .u16 rc, .int .u32 rl, .string rd] 30)) := (Below.refl _ _).alloc (Nat.le_refl _) _
          refine ⟨k + 1, n, c, A2, by go_num, rfl, by omega, (show _ = _ by omega), ?_, ?_, h3, h4.trans (hb.mono h4.size)⟩
          · rw [HP2.out]; exact h1
          · rw [HP2.out]; exact h2.alloc _
      case pos =>
        subst ht
        have hP := HP.out
        simp only [if_true] at hP
        have HP2 := Lib.hid hP
        clear HP hP
        have HN2 : RowKit.Hid (∀ W, Calls Try.prog 43 #[.int .u16 2, .string rd] W (fun e w' => ∃ A c, e = .returned (.slice A ns.length c) ∧ Sl w' 1 (.slice A ns.length c) ns.length (strs ns) ∧ (∀ i, (Value.slice A ns.length c).ownBlock = some i → W.heap.size ≤ i) ∧ Below W.heap.size W w')) :=
          Lib.hid (fun W => by have h := HN.out W; unfold NamesPost at h; rw [HNR.out] at h; exact h)
        have hn2 := HNL.out
        clear HN HNR
        go_wp2_with (first
          | (go_at_call 43; refine (HN2.out _).mono ?_; rintro e w6 ⟨A6, k6, rfl, hS6, ho6, hb6⟩; have hb7 : Below wr.heap.size wr w6 := ((Below.refl _ _).alloc (Nat.le_refl _) _).trans (hb6.mono (by simp)); have HSL := Lib.hid (hI.out.2.1.below hb7 hI.out.2.1.lt); have HSR := Lib.hid (src_own (P := Try.prog) Try.underlying83 hS6 (strs_one20 _)); have H6 := Lib.hid hb7; clear hS6 ho6 hb6 hb7)
          | (at_builtin; go_must (refine wpList_append_sl _ rfl (.tmp 31) (.tmp 36) 83 83 rfl 9 j0 (.string ⟨#[]⟩) 1 16 Try.underlying83 hj0 hy0 hy1 hy2 rfl (.slice A2 n c) n (strs (hostsL (LL.take k))) rfl HSL.out (.slice A6 ns.length k6) rfl ns.length (strs ns) HSR.out (by unfold maxLen; omega) (by omega) ?_); intro v3 w9 hs3 hg3 hv3; obtain ⟨A3, c3, rfl, hc3, hm3⟩ := hs3.shape; have H3 := Lib.hid (And.intro hs3 (And.intro hg3 hv3)); clear hs3 hg3 hv3 hc3 hm3))
        go_roundg (N - k)
        case measure => have := hg.out; omega
        case rel =>
          obtain ⟨h1, h2, h3, h4⟩ := hI.out
          obtain ⟨hs3, hg3, hv3⟩ := H3.out
          have hb := H6.out
          refine ⟨k + 1, n + ns.length, c3, A3, by go_num, rfl, by omega, (show _ = _ by omega), ?_, ?_, own_from h3 (by have := h4.size; have := hb.size; omega) hv3, ?_⟩
          · rw [HP2.out, List.length_append, ← h1]
          · rw [HP2.out, strs_app20]; exact hs3
          · exact (h4.trans (hb.mono h4.size)).grown hg3 (by have := h4.size; have := hb.size; omega) (fun g hg => h3 g hg)
    · have hltI : ¬ (k : Int) < (N : Int) := by omega
      obtain rfl : k = N := by omega
      have c5 : wr.cell? ⟨w.heap.size, 5, none⟩ = some (.slice m.eA m.e.length m.ec) := by
        have h1 := H5.out.2.1
        have h2 := hI.out.2.2.2
        exact (h2.cell (p := ⟨w.heap.size, 5, none⟩) (by show w.heap.size < _; have := h1.size; omega)).trans ((h1.cell (p := ⟨w.heap.size, 5, none⟩) hgV).trans (XV.out.cell 5))
      have BW := Lib.hid ((BV.out.trans (H5.out.2.1.mono BV.out.size)).trans (hI.out.2.2.2.mono (by have := BV.out.size; have := H5.out.2.1.size; omega)))
      have HLE := Lib.hid (fun W (hW : Below wr.heap.size wr W) => left_any m.e m.eA m.ec z HM.out.2.2 W ((HM.out.1.te.below BW.out).below hW) HM.out.2.1.se HM.out.2.1.le)
      obtain ⟨L3, hL3⟩ : ∃ L, leftL z.data.toList m.e = L := ⟨_, rfl⟩
      obtain ⟨hs, hhs⟩ : ∃ hs, hostsL (leftL z.data.toList (m.s ++ m.h)) = hs := ⟨_, rfl⟩
      have HGL := Lib.hid (show glueL z.data.toList m.s m.h m.e = L3.filter (glueB hs) from by rw [← hL3, ← hhs]; rfl)
      have HL3 := Lib.hid (show L3.length ≤ 20 ∧ (∀ e ∈ L3, e.small ∧ isName e.nb = true) from by
        rw [← hL3]
        exact ⟨Nat.le_trans (left_len _ _) HM.out.2.1.le, fun e he => ⟨left_small HM.out.2.1.se e he, (stays_parts (left_stays he).2).1⟩⟩)
      have HHS := Lib.hid (show n = hs.length ∧ Sl wr 1 (.slice A2 n c) n (strs hs) ∧ hs.length ≤ 80 ∧ ∀ y ∈ hs, isName y = true from by
        have hk2 : LL.take k = LL := List.take_of_length_le (by have := H5.out.2.2.1; omega)
        have e1 : hostsL LL = hs := by rw [← H5.out.2.2.2.1]; exact hhs
        have h1 := hI.out.1
        have h2 := hI.out.2.1
        rw [hk2, e1] at h1 h2
        refine ⟨h1, h2, ?_, ?_⟩
        · have h9 := hosts_len LL
          have h8 := H5.out.2.2.1
          rw [e1] at h9
          omega
        · rw [← e1]
          intro y hy
          obtain ⟨x, _, hx⟩ := List.mem_flatMap.1 hy
          exact namesR_names x y hx)
      rw [hL3] at HLE
      clear hL3 hhs hlt hI H5 hNI hN40 hgV
      go_wp2_with (go_at_call 40; refine (HLE.out _ (Below.refl _ _)).mono ?_; rintro e w7 ⟨A7, k7, rfl, hS7, ho7, hb7⟩)
      have H7 := Lib.hid (And.intro hS7 hb7)
      have hl3 : (L3.length : Int) ≤ 20 := by have := HL3.out.1; omega
      clear hS7 ho7 hb7 c5 HLE
      have HNS := Lib.hid (And.intro HHS.out.1 (And.intro HHS.out.2.2.1 HHS.out.2.2.2))
      obtain ⟨wo, rfl⟩ : ∃ wo : World, wo = wr := ⟨_, rfl⟩
      go_loopg [8, 44] (L3.length + 1) (fun gg v8 v44 ws => ∃ (j n2 c2 : Nat) (A8 : Option Addr), v44 = .int .i64 (j : Int) ∧ v8 = .slice A8 n2 c2 ∧ j ≤ L3.length ∧ Aside (gg + j = L3.length + 1) ∧
        Aside (n2 = ((L3.take j).filter (glueB hs)).length ∧ Sl ws 5 (.slice A8 n2 c2) n2 (flatV RRec.vs ((L3.take j).filter (glueB hs))) ∧ (∀ g, (Value.slice A8 n2 c2).ownBlock = some g → w7.heap.size ≤ g) ∧ Below w7.heap.size w7 ws))
      case atStart => exact ⟨0, 0, 0, none, rfl, rfl, by omega, rfl, by simp, Sl.nil _ _, fun g hg => by simp [Value.ownBlock] at hg, Below.refl _ _⟩
      case round =>
        obtain ⟨j, n2, c2, A8, rfl, rfl, hj, hg2, hI⟩ := hrel
        by_cases hlt : j < L3.length
        · obtain ⟨r, hr⟩ : ∃ r, L3[j]? = some r := ⟨_, List.getElem?_eq_getElem hlt⟩
          have hltI : (j : Int) < (L3.length : Int) := by omega
          have hrs := HL3.out.2 r (List.mem_of_getElem? hr)
          have hnl : n2 ≤ 20 := by
            have h1 := hI.out.1
            have h2 := List.length_filter_le (glueB hs) (L3.take j)
            have h3 := HL3.out.1
            simp only [List.length_take] at h2
            omega
          obtain ⟨gn, cap, hv, hgn, hc1, hc2, hcell⟩ := H7.out.1.form (by omega)
          injection hv with hA _ hcc
          subst hA
          subst hcc
          have hcell2 : ∀ i u, r.vs[i]? = some u → wr.cell? ⟨gn, j * 5 + i, none⟩ = some u := fun i u hu => (hI.out.2.2.2.cell (p := ⟨gn, j * 5 + i, none⟩) hgn).trans (hcell _ u (flatV_at RRec.five L3 j r i u hr hu))
          have d0 : wr.cell? ⟨gn, j * 5, none⟩ = some (.string r.n) := hcell2 0 _ rfl
          have d1 : wr.cell? ⟨gn, j * 5 + 1, none⟩ = some (.int .u16 r.t) := hcell2 1 _ rfl
          have d2 : wr.cell? ⟨gn, j * 5 + 2, none⟩ = some (.int .u16 r.c) := hcell2 2 _ rfl
          have d3 : wr.cell? ⟨gn, j * 5 + 3, none⟩ = some (.int .u32 r.l) := hcell2 3 _ rfl
          have d4 : wr.cell? ⟨gn, j * 5 + 4, none⟩ = some (.string r.d) := hcell2 4 _ rfl
          have HP := Lib.hid (show (L3.take (j + 1)).filter (glueB hs) = (L3.take j).filter (glueB hs) ++ (if glueB hs r = true then [r] else []) from by rw [take_at hr, List.filter_append]; simp [List.filter_cons])
          obtain ⟨rn, rt, rc, rl, rd⟩ := r
          have HRN := Lib.hid (show rn.size ≤ 1000 ∧ isName rn.data.toList = true from ⟨hrs.1.1, hrs.2⟩)
          have HGB := Lib.hid (show glueB hs ⟨rn, rt, rc, rl, rd⟩ = ((decide (rt = 1) || decide (rt = 28)) && hs.any fun y => foldB y == foldB rn.data.toList) from rfl)
          clear hr hrs hlt hcell hcell2 hc1 hc2
          go_wp2_with (fail)
          obtain ⟨wx, hwx⟩ : ∃ wx, wr.alloc (.cells #[.string rn, .int .u16 rt, .int .u16 rc, .int .u32 rl, .string rd] 30) = wx := ⟨_, rfl⟩
          have HX := Lib.hid (show Below wr.heap.size wr wx ∧ Blk wx wr.heap.size 30 #[.string rn, .int .u16 rt, .int .u16 rc, .int .u32 rl, .string rd] from by
            rw [← hwx]; exact ⟨(Below.refl _ _).alloc (Nat.le_refl _) _, Blk.new _ _ _⟩)
          rw [hwx]
          clear hwx d0 d1 d2 d3 d4
          have hn80 : (n : Int) ≤ 80 := by have := HNS.out; omega
          obtain ⟨bx, hbx⟩ : ∃ bx, wr.heap.size = bx := ⟨_, rfl⟩
          rw [hbx] at HX ⊢
          have HW := Lib.hid (show Below wo.heap.size wo wx ∧ Below w7.heap.size w7 wx from by
            have h1 := hI.out.2.2.2
            have h2 := HX.out.1
            rw [← hbx] at h2
            have h3 := h1.trans (h2.mono h1.size)
            exact ⟨H7.out.2.trans (h3.mono H7.out.2.size), h3⟩)
          have HI := Lib.hid (And.intro hI.out (And.intro hbx hg2.out))
          clear hI hbx hg2
          obtain ⟨wu, rfl⟩ : ∃ wu : World, wu = wr := ⟨_, rfl⟩
          go_loopg [11, 50] (n + 1) (fun g3 v11 v50 wt => ∃ (i : Nat) (bq : Bool), v50 = .int .i64 (i : Int) ∧ v11 = .bool bq ∧ i ≤ n ∧ Aside (g3 + i = n + 1) ∧ Aside (bq = (hs.take i).any (fun y => foldB y == foldB rn.data.toList) ∧ Below wx.heap.size wx wt))
          case atStart => exact ⟨0, false, rfl, rfl, by omega, rfl, by simp, Below.refl _ _⟩
          case round =>
            obtain ⟨i, bq, rfl, rfl, hi, hg3, hQ⟩ := hrel
            by_cases hlt3 : i < n
            · obtain ⟨y, hy⟩ : ∃ y, hs[i]? = some y := ⟨_, List.getElem?_eq_getElem (by have := HNS.out.1; omega)⟩
              have hltI3 : (i : Int) < (n : Int) := by omega
              obtain ⟨gh, caph, hvh, hgh, _, _, hch⟩ := HHS.out.2.1.form (by omega)
              injection hvh with hAh _ hch2
              subst hAh
              subst hch2
              have e0 : wr.cell? ⟨gh, i, none⟩ = some (.string ⟨y.toArray⟩) := by
                have h1 := hch i (.string ⟨y.toArray⟩) (by unfold strs; rw [List.getElem?_map, hy]; rfl)
                have h2 := HW.out.1
                exact (hQ.out.2.cell (p := ⟨gh, i, none⟩) (by show gh < _; have := h2.size; omega)).trans ((h2.cell (p := ⟨gh, i, none⟩) hgh).trans h1)
              have f0 : wr.cell? ⟨bx, 0, none⟩ = some (.string rn) := (hQ.out.2.cell (p := ⟨bx, 0, none⟩) HX.out.2.lt).trans (HX.out.2.cell 0)
              have hyn := HNS.out.2.2 y (List.mem_of_getElem? hy)
              have hyl := ((isName_iff y).1 hyn).1
              have HSM := Lib.hid (fun W => rSame_any ⟨y.toArray⟩ rn (by show y.toArray.size ≤ maxLen; unfold maxLen; simp; omega) (by have := HRN.out.1; unfold maxLen; omega) W)
              have HSB := Lib.hid (show sameB (⟨y.toArray⟩ : ByteArray).data.toList rn.data.toList = (foldB y == foldB rn.data.toList) from sameB_names hyn HRN.out.2)
              have HA := Lib.hid (show (hs.take (i + 1)).any (fun y => foldB y == foldB rn.data.toList) = ((hs.take i).any (fun y => foldB y == foldB rn.data.toList) || (foldB y == foldB rn.data.toList)) from by rw [take_at hy, List.any_append]; simp)
              clear hch hy hyn hyl hlt3
              cases bq with
              | true =>
                clear HSM HSB
                go_wp2_with (fail)
                go_roundg (n - i)
                case measure => have := hg3.out; omega
                case rel => exact ⟨i + 1, true, by go_num, rfl, by omega, (show _ = _ by omega), by rw [HA.out, ← hQ.out.1]; rfl, hQ.out.2⟩
              | false =>
                rw [HSB.out] at HSM
                obtain ⟨bb, hbb⟩ : ∃ bb, (foldB y == foldB rn.data.toList) = bb := ⟨_, rfl⟩
                rw [hbb] at HSM HA
                clear hbb HSB
                go_wp2_with (go_at_call 44; refine (HSM.out _).mono ?_; rintro e w8 ⟨rfl, hb8⟩; have H8 := Lib.hid hb8; clear hb8)
                go_roundg (n - i)
                case measure => have := hg3.out; omega
                case rel =>
                  have hb := H8.out
                  exact ⟨i + 1, bb, by go_num, rfl, by omega, (show _ = _ by omega), by rw [HA.out, ← hQ.out.1]; rfl, hQ.out.2.trans (hb.mono hQ.out.2.size)⟩
            · have hltI3 : ¬ (i : Int) < (n : Int) := by omega
              obtain rfl : i = n := by omega
              have HBQ := Lib.hid (show bq = hs.any (fun y => foldB y == foldB rn.data.toList) from by
                have h1 := hQ.out.1
                rw [List.take_of_length_le (by have := HNS.out.1; omega)] at h1
                exact h1)
              have f1 : wr.cell? ⟨bx, 1, none⟩ = some (.int .u16 rt) := (hQ.out.2.cell (p := ⟨bx, 1, none⟩) HX.out.2.lt).trans (HX.out.2.cell 1)
              have HQ := Lib.hid hQ.out.2
              clear hlt3 hQ
              have HBW := Lib.hid (show Below wu.heap.size wu wr from by
                have h1 := HX.out.1
                rw [← HI.out.2.1] at h1
                exact h1.trans (HQ.out.mono h1.size))
              by_cases hadd : bq = true ∧ (rt = 1 ∨ rt = 28)
              case neg =>
                have hno : glueB hs ⟨rn, rt, rc, rl, rd⟩ = false := by
                  rw [HGB.out, ← HBQ.out]
                  cases bq with
                  | false => simp
                  | true =>
                    have : ¬ (rt = 1 ∨ rt = 28) := fun h => hadd ⟨rfl, h⟩
                    simp
                    omega
                have hP := HP.out
                rw [hno] at hP
                simp only [Bool.false_eq_true, if_false, List.append_nil] at hP
                have HP2 := Lib.hid hP
                have hend : ∀ g, g + j = L3.length + 1 → ∀ g', g' = L3.length - j → ∃ (j' n2' c2' : Nat) (A8' : Option Addr), (Value.int .i64 ((j : Int) + 1)) = .int .i64 (j' : Int) ∧ Value.slice A8 n2 c2 = .slice A8' n2' c2' ∧ j' ≤ L3.length ∧ Aside (g' + j' = L3.length + 1) ∧
                    Aside (n2' = ((L3.take j').filter (glueB hs)).length ∧ Sl wr 5 (.slice A8' n2' c2') n2' (flatV RRec.vs ((L3.take j').filter (glueB hs))) ∧ (∀ g, (Value.slice A8' n2' c2').ownBlock = some g → w7.heap.size ≤ g) ∧ Below w7.heap.size w7 wr) := by
                  rintro g hgj g' rfl
                  obtain ⟨h1, h2, h3, h4⟩ := HI.out.1
                  have hb := HBW.out
                  refine ⟨j + 1, n2, c2, A8, by go_num, rfl, by omega, (show _ = _ by omega), ?_, ?_, h3, h4.trans (hb.mono h4.size)⟩
                  · rw [HP2.out]; exact h1
                  · rw [HP2.out]; exact h2.below hb h2.lt
                have HEND := Lib.hid hend
                clear hend hP hno HP HBQ
                cases bq with
                | false =>
                  clear hadd
                  go_wp2_with (fail)
                  go_roundg (L3.length - j)
                  case measure => have := HI.out.2.2; omega
                  case rel => exact HEND.out _ HI.out.2.2 _ rfl
                | true =>
                  have q1 : (rt == 1) = false := by
                    cases h : (rt == 1) with
                    | false => rfl
                    | true => exact absurd ⟨rfl, .inl (by simpa using h)⟩ hadd
                  have q2 : (rt == 28) = false := by
                    cases h : (rt == 28) with
                    | false => rfl
                    | true => exact absurd ⟨rfl, .inr (by simpa using h)⟩ hadd
                  clear hadd
                  go_wp2_with (fail)
                  go_roundg (L3.length - j)
                  case measure => have := HI.out.2.2; omega
                  case rel => exact HEND.out _ HI.out.2.2 _ rfl
              case pos =>
                obtain ⟨rfl, hrt⟩ := hadd
                have hyes : glueB hs ⟨rn, rt, rc, rl, rd⟩ = true := by
                  rw [HGB.out, ← HBQ.out]
                  rcases hrt with rfl | rfl <;> simp
                have hP := HP.out
                rw [hyes] at hP
                simp only [if_true] at hP
                have HP2 := Lib.hid hP
                clear hP hyes HP HBQ
                have f0 : wr.cell? ⟨bx, 0, none⟩ = some (.string rn) := (HQ.out.cell (p := ⟨bx, 0, none⟩) HX.out.2.lt).trans (HX.out.2.cell 0)
                have f2 : wr.cell? ⟨bx, 2, none⟩ = some (.int .u16 rc) := (HQ.out.cell (p := ⟨bx, 2, none⟩) HX.out.2.lt).trans (HX.out.2.cell 2)
                have f3 : wr.cell? ⟨bx, 3, none⟩ = some (.int .u32 rl) := (HQ.out.cell (p := ⟨bx, 3, none⟩) HX.out.2.lt).trans (HX.out.2.cell 3)
                have f4 : wr.cell? ⟨bx, 4, none⟩ = some (.string rd) := (HQ.out.cell (p := ⟨bx, 4, none⟩) HX.out.2.lt).trans (HX.out.2.cell 4)
                have HSL := Lib.hid ((HI.out.1.2.1.below HBW.out HI.out.1.2.1.lt).alloc (.cells #[.string rn, .int .u16 rt, .int .u16 rc, .int .u32 rl, .string rd] 30))
                have HSR := Lib.hid (src_rr (P := Try.prog) Try.underlying24 wr 30 rn rd rt rc rl)
                rcases hrt with rfl | rfl
                · go_wp2_with (at_builtin; go_must (refine wpList_append_sl _ rfl (.tmp 73) (.tmp 75) 24 24 rfl 30 i0 (.agg #[.string ⟨#[]⟩, .int .u16 0, .int .u16 0, .int .u32 0, .string ⟨#[]⟩]) 5 40 Try.underlying24 hi0 hz0 hz1 hz2 rfl (.slice A8 n2 c2) n2 (flatV RRec.vs ((L3.take j).filter (glueB hs))) rfl HSL.out _ rfl 1 (flatV RRec.vs [⟨rn, 1, rc, rl, rd⟩]) HSR.out (by unfold maxLen; omega) (by omega) ?_); intro v3 w9 hs3 hg3 hv3; obtain ⟨A3, c3, rfl, hc3, hm3⟩ := hs3.shape; have H3 := Lib.hid (And.intro hs3 (And.intro hg3 hv3)); clear hs3 hg3 hv3 hc3 hm3)
                  go_roundg (L3.length - j)
                  case measure => have := HI.out.2.2; omega
                  case rel => exact glue_end HI.out.1 HBW.out H3.out.1 H3.out.2.1 H3.out.2.2 HP2.out (by omega) HI.out.2.2
                · go_wp2_with (at_builtin; go_must (refine wpList_append_sl _ rfl (.tmp 73) (.tmp 75) 24 24 rfl 30 i0 (.agg #[.string ⟨#[]⟩, .int .u16 0, .int .u16 0, .int .u32 0, .string ⟨#[]⟩]) 5 40 Try.underlying24 hi0 hz0 hz1 hz2 rfl (.slice A8 n2 c2) n2 (flatV RRec.vs ((L3.take j).filter (glueB hs))) rfl HSL.out _ rfl 1 (flatV RRec.vs [⟨rn, 28, rc, rl, rd⟩]) HSR.out (by unfold maxLen; omega) (by omega) ?_); intro v3 w9 hs3 hg3 hv3; obtain ⟨A3, c3, rfl, hc3, hm3⟩ := hs3.shape; have H3 := Lib.hid (And.intro hs3 (And.intro hg3 hv3)); clear hs3 hg3 hv3 hc3 hm3)
                  go_roundg (L3.length - j)
                  case measure => have := HI.out.2.2; omega
                  case rel => exact glue_end HI.out.1 HBW.out H3.out.1 H3.out.2.1 H3.out.2.2 HP2.out (by omega) HI.out.2.2
        · have hltI : ¬ (j : Int) < (L3.length : Int) := by omega
          obtain rfl : j = L3.length := by omega
          clear hlt
          go_wp2_with (fail)
          go_ret
          obtain ⟨h1, h2, h3, h4⟩ := hI.out
          rw [List.take_length] at h1 h2
          rw [HGL.out]
          rw [h1] at h2 h3 ⊢
          have hb : Below w.heap.size w w7 := BW.out.trans (H7.out.2.mono BW.out.size)
          exact ⟨A8, c2, rfl, h2, fun g hg => by have := h3 g hg; have := hb.size; omega, hb.trans (h4.mono hb.size)⟩
end Go.Proofs.Ythjkdpphbipgfaa
