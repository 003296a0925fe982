/- The walk of sets.Find. Conditions: none. -/
import Derived.Test.YtfipacfompihkaaBuild
import Derived.Test.YtfipacfompihkaaNear
import Derived.Test.YtfipacfompihkaaCheck
namespace Go.Proofs.Ytfipacfompihkaa
open Go.RowKit Go.Lib

/-- No set. -/
def NoSet (w : World) (e : Ending) (w' : World) : Prop := e = .returned (.tuple #[.agg #[.string ⟨#[]⟩, .int .u16 0, .int .u32 0, .slice none 0 0], .int .i64 3]) ∧ Below w.heap.size w w'
/-- A set made of these records, and no fault. -/
def FoundP (n : ByteArray) (t : Int) (L : List RRec) (w : World) (e : Ending) (w' : World) : Prop :=
  ∃ (P : List Nat) (ds : List ByteArray) (Ad : Option Addr) (cd : Nat), SrtK (keyF (foldsL t L)) cmpS P ∧ StS (keyF (foldsL t L)) P (List.range L.length) ∧ ds = pickD L ((ddX (keyF (foldsL t L)) none P).take 64) ∧ e = .returned (.tuple #[setV n t (minL L) Ad ds cd, .int .i64 0]) ∧ Sl w' 1 (.slice Ad ds.length cd) ds.length (ds.map Value.string) ∧ (∀ h, (Value.slice Ad ds.length cd).ownBlock = some h → w.heap.size ≤ h) ∧ Below w.heap.size w w'
def FindP (n : ByteArray) (t : Int) (L : List RRec) (w : World) (e : Ending) (w' : World) : Prop :=
  (chkN n.data.toList ≠ 0 ∧ NoSet w e w') ∨ (chkN n.data.toList = 0 ∧ rightL (L.filter (nearR t n)) = [] ∧ NoSet w e w') ∨
    (chkN n.data.toList = 0 ∧ rightL (L.filter (nearR t n)) ≠ [] ∧ FoundP n t (rightL (L.filter (nearR t n))) w e w')
/-- The empty set is written over the empty set. -/
theorem no_set {w w2 : World} {b : Nat} (h : Blk w2 b 49 #[.string ⟨#[]⟩, .int .u16 0, .int .u32 0, .slice none 0 0]) (hb : Below w.heap.size w w2) (hl : w.heap.size ≤ b) :
    Blk ((((w2.setCell ⟨b, 0, none⟩ (.string ⟨#[]⟩)).setCell ⟨b, 1, none⟩ (.int .u16 0)).setCell ⟨b, 2, none⟩ (.int .u32 0)).setCell ⟨b, 3, none⟩ (.slice none 0 0)) b 49 #[.string ⟨#[]⟩, .int .u16 0, .int .u32 0, .slice none 0 0] ∧ Below w.heap.size w ((((w2.setCell ⟨b, 0, none⟩ (.string ⟨#[]⟩)).setCell ⟨b, 1, none⟩ (.int .u16 0)).setCell ⟨b, 2, none⟩ (.int .u32 0)).setCell ⟨b, 3, none⟩ (.slice none 0 0)) := by
  refine ⟨?_, (((hb.setCell (p := ⟨b, 0, none⟩) hl _).setCell (p := ⟨b, 1, none⟩) hl _).setCell (p := ⟨b, 2, none⟩) hl _).setCell (p := ⟨b, 3, none⟩) hl _⟩
  have h9 := (((h.set_ 0 (.string ⟨#[]⟩)).set_ 1 (.int .u16 0)).set_ 2 (.int .u32 0)).set_ 3 (.slice none 0 0)
  simpa using h9
set_option maxRecDepth 100000 in
set_option maxHeartbeats 8000000 in
theorem findS_any {m : Nat} (hm : StabOkI m) (n : ByteArray) (t : Int) (A : Option Addr) (c : Nat) (L : List RRec) (w : World) (hT : RTab w A L) (hl : L.length ≤ m) (hl2 : L.length ≤ 1000) (hn : n.size ≤ 1000000) (hd : ∀ r ∈ L, r.n.size ≤ 1000000 ∧ r.d.size ≤ 1000000 ∧ 0 ≤ r.l ∧ r.l ≤ 4294967295) :
    Calls Try.prog 28 #[.string n, .int .u16 t, .slice A L.length c] w (FindP n t L w) := by
  obtain ⟨i0, hi0, hz0, hz1, hz2⟩ := info_parts info_rr
  have HC := Lib.hid (fun W => Check_any n (by unfold maxLen; omega) W)
  have HF := Lib.hid (fun W => Fold_any n (by omega) W)
  obtain ⟨F, hF⟩ : ∃ F : ByteArray, (⟨(foldB n.data.toList).toArray⟩ : ByteArray) = F := ⟨_, rfl⟩
  rw [hF] at HF
  have HS := Lib.hid (And.intro hT (And.intro hl (And.intro hl2 (And.intro hn (And.intro hd hF)))))
  obtain ⟨k0, hk0⟩ : ∃ k0, chkN n.data.toList = k0 := ⟨_, rfl⟩
  rw [hk0] at HC
  clear hT hl hn hd hF
  go_enter Try.func28, Try.ntmps28
  go_wp2_with (fail)
  obtain ⟨W1, hW1⟩ : ∃ W1, ((w.alloc (.cells #[.string n] 9)).alloc (.cells #[.int .u16 t] 44)).alloc (.cells #[.string ⟨#[]⟩, .int .u16 0, .int .u32 0, .slice none 0 0] 49) = W1 := ⟨_, rfl⟩
  rw [hW1]
  with_reducible refine (HC.out _).mono ?_
  rintro e w2 ⟨rfl, hb⟩
  have HB : RowKit.Hid (Below w.heap.size w w2 ∧ Blk w2 w.heap.size 9 #[.string n] ∧ Blk w2 (w.heap.size + 1) 44 #[.int .u16 t] ∧ Blk w2 (w.heap.size + 1 + 1) 49 #[.string ⟨#[]⟩, .int .u16 0, .int .u32 0, .slice none 0 0]) := Lib.hid (by
    have z1 : W1.heap.size = w.heap.size + 3 := by rw [← hW1]; simp
    have b01 : Below w.heap.size w W1 := by rw [← hW1]; exact (((Below.refl _ _).alloc (Nat.le_refl _) _).alloc (by simp) _).alloc (by simp; omega) _
    have k0 : Blk W1 w.heap.size 9 #[.string n] := by rw [← hW1]; exact ((Blk.new _ _ _).alloc _).alloc _
    have k1 : Blk W1 (w.heap.size + 1) 44 #[.int .u16 t] := by
      rw [← hW1]
      have h9 : Blk ((w.alloc (.cells #[.string n] 9)).alloc (.cells #[.int .u16 t] 44)) (w.heap.size + 1) 44 #[.int .u16 t] := heap_alloc2_new w _ _
      exact h9.alloc _
    have k2 : Blk W1 (w.heap.size + 1 + 1) 49 #[.string ⟨#[]⟩, .int .u16 0, .int .u32 0, .slice none 0 0] := by
      rw [← hW1]
      have := Blk.new ((w.alloc (.cells #[.string n] 9)).alloc (.cells #[.int .u16 t] 44)) 49 #[.string ⟨#[]⟩, .int .u16 0, .int .u32 0, .slice none 0 0]
      simpa using this
    exact ⟨b01.trans (hb.mono (by omega)), k0.below hb (by omega), k1.below hb (by omega), k2.below hb (by omega)⟩)
  have n0 := HB.out.2.1.cell 0
  have t0 := HB.out.2.2.1.cell 0
  have s0 := HB.out.2.2.2.cell 0
  have s1 := HB.out.2.2.2.cell 1
  have s2 := HB.out.2.2.2.cell 2
  have s3 := HB.out.2.2.2.cell 3
  have z0 := HB.out.2.2.2.frozen 0
  have z1 := HB.out.2.2.2.frozen 1
  have z2 := HB.out.2.2.2.frozen 2
  have z3 := HB.out.2.2.2.frozen 3
  clear hW1 hb HC
  by_cases hk : k0 = 0
  · subst hk
    go_wp2_with (fail)
    with_reducible refine (HF.out _).mono ?_
    rintro e w3 ⟨rfl, hb⟩
    have H3 := Lib.hid hb
    clear hb HF
    go_wp2_with (fail)
    obtain ⟨V, hV⟩ : ∃ V, w3.alloc (.cells #[.string F] 9) = V := ⟨_, rfl⟩
    rw [hV]
    obtain ⟨bf, hbf⟩ : ∃ bf, w3.heap.size = bf := ⟨_, rfl⟩
    rw [hbf]
    have HV : RowKit.Hid (Below w.heap.size w V ∧ Blk V w.heap.size 9 #[.string n] ∧ Blk V (w.heap.size + 1) 44 #[.int .u16 t] ∧ Blk V (w.heap.size + 1 + 1) 49 #[.string ⟨#[]⟩, .int .u16 0, .int .u32 0, .slice none 0 0] ∧ Blk V bf 9 #[.string F]) := Lib.hid (by
      have b3 : Below w2.heap.size w2 V := by rw [← hV]; exact H3.out.alloc H3.out.size _
      have h := HB.out
      refine ⟨h.1.trans (b3.mono h.1.size), h.2.1.below b3 h.2.1.lt, h.2.2.1.below b3 h.2.2.1.lt, h.2.2.2.below b3 h.2.2.2.lt, ?_⟩
      rw [← hV, ← hbf]
      exact Blk.new _ _ _)
    clear hV hbf H3 n0 t0 s0 s1 s2 s3 z0 z1 z2 z3 HB
    go_loopg [10, 12, 22] L.length (fun gg v10 v12 v22 wr => ∃ (k : Nat) (Al : Option Addr) (cl : Nat) (M : List RRec), v22 = .int .i64 (k : Int) ∧ v10 = .slice Al M.length cl ∧ Aside (gg + k = L.length) ∧ Aside (M = (L.take k).filter (nearR t n)) ∧ Aside (Below V.heap.size V wr) ∧ Aside (Sl wr 5 (.slice Al M.length cl) M.length (flatV RRec.vs M)) ∧ Aside (∀ g, (Value.slice Al M.length cl).ownBlock = some g → V.heap.size ≤ g))
    case atStart => exact ⟨0, none, 0, [], rfl, rfl, (by show _ = _; omega), (by show _ = _; rfl), Below.refl _ _, Sl.nil _ _, fun g hg => by simp [Value.ownBlock] at hg⟩
    case round =>
      obtain ⟨k, Al, cl, M, rfl, rfl, hg, hM, hb, hs, ho⟩ := hrel
      by_cases hlt : k < L.length
      · have hltI : (k : Int) < (L.length : Int) := by omega
        obtain ⟨x, hx⟩ : ∃ x, L[k]? = some x := ⟨_, List.getElem?_eq_getElem hlt⟩
        have hTr := (HS.out.1.below (HV.out.1.trans (hb.out.mono HV.out.1.size)))
        obtain ⟨b', off', rfl, hbl, d0, d1, d2, d3, d4⟩ := hTr.cells hx
        have hrd := HS.out.2.2.2.2.1 x (List.mem_of_getElem? hx)
        obtain ⟨W, hW⟩ : ∃ W, wr.alloc (.cells #[.string x.n, .int .u16 x.t, .int .u16 x.c, .int .u32 x.l, .string x.d] 77) = W := ⟨_, rfl⟩
        have hbW : Below V.heap.size V W := by rw [← hW]; exact hb.out.alloc hb.out.size _
        have HNE := Lib.hid (near_any (HV.out.2.2.1.below hbW HV.out.2.2.1.lt) (HV.out.2.1.below hbW HV.out.2.1.lt) (HV.out.2.2.2.2.below hbW HV.out.2.2.2.2.lt) HS.out.2.2.2.2.2.symm HS.out.2.2.2.1 x hrd.1)
        have hRR : Blk W wr.heap.size 77 #[.string x.n, .int .u16 x.t, .int .u16 x.c, .int .u32 x.l, .string x.d] := by rw [← hW]; exact Blk.new _ _ _
        have r0 := hRR.cell 0
        have r1 := hRR.cell 1
        have r2 := hRR.cell 2
        have r3 := hRR.cell 3
        have r4 := hRR.cell 4
        have HX := Lib.hid (And.intro hx (And.intro hlt (And.intro hbW hRR)))
        clear hx hlt hrd hTr hbW hRR
        have hsW : Sl W 5 (.slice Al M.length cl) M.length (flatV RRec.vs M) := by rw [← hW]; exact hs.out.alloc _
        have hMl : M.length ≤ 1000 := by
          have := List.length_filter_le (nearR t n) (L.take k)
          rw [← hM.out, List.length_take] at this
          have := hltI
          have := HS.out.2.2.1
          omega
        have HSW := Lib.hid hsW
        clear hsW
        go_wp2_with (fail)
        with_reducible refine HNE.out.mono ?_
        rintro e W2 ⟨rfl, hbn⟩
        have hbV : Below V.heap.size V W2 := HX.out.2.2.1.trans (hbn.mono HX.out.2.2.1.size)
        have hM2 : (L.take (k + 1)).filter (nearR t n) = M ++ (if nearR t n x = true then [x] else []) := by
          rw [List.take_add_one, HX.out.1, List.filter_append, ← hM.out]
          by_cases h : nearR t n x = true
          · simp [h]
          · simp [h]
        have hRR2 := HX.out.2.2.2.below hbn HX.out.2.2.2.lt
        have q0 := hRR2.cell 0
        have q1 := hRR2.cell 1
        have q2 := hRR2.cell 2
        have q3 := hRR2.cell 3
        have q4 := hRR2.cell 4
        have hs2 : Sl W2 5 (.slice Al M.length cl) M.length (flatV RRec.vs M) := HSW.out.below hbn HSW.out.lt
        have HSR := Lib.hid (src_rr (P := Try.prog) Try.underlying41 W2 77 x.n x.d x.t x.c x.l)
        have HY := Lib.hid (And.intro hbV (And.intro hM2 hs2))
        clear hbn hbV hM2 hRR2 hs2 r0 r1 r2 r3 r4 hW d0 d1 d2 d3 d4 hbl HNE HSW
        by_cases hq : nearR t n x = true
        · rw [hq]
          have HSL := Lib.hid (HY.out.2.2.alloc (.cells #[.string x.n, .int .u16 x.t, .int .u16 x.c, .int .u32 x.l, .string x.d] 77))
          go_wp2_with (at_builtin; go_must (refine wpList_append_sl _ rfl (.tmp 29) (.tmp 31) 41 41 rfl 77 i0 (.agg #[.string ⟨#[]⟩, .int .u16 0, .int .u16 0, .int .u32 0, .string ⟨#[]⟩]) 5 40 Try.underlying41 hi0 hz0 hz1 hz2 rfl (.slice Al M.length cl) M.length (flatV RRec.vs M) rfl HSL.out _ rfl 1 (flatV RRec.vs [x]) HSR.out (by unfold maxLen; omega) (by omega) ?_); intro v3 w9 hs3 hg3 hv3; obtain ⟨A3, c3, rfl, hc3, hm3⟩ := hs3.shape; have H3 := Lib.hid (And.intro hs3 (And.intro hg3 hv3)); clear hs3 hg3 hv3 hc3 hm3)
          go_roundg (L.length - (k + 1))
          case measure => have := hg.out; have := HX.out.2.1; omega
          case rel =>
            obtain ⟨hs3, hg3, hv3⟩ := H3.out
            have hl : (M ++ [x]).length = M.length + 1 := by simp
            have h2 := HY.out.2.1
            rw [if_pos hq] at h2
            have hbA : Below V.heap.size V (W2.alloc (.cells #[.string x.n, .int .u16 x.t, .int .u16 x.c, .int .u32 x.l, .string x.d] 77)) := HY.out.1.alloc HY.out.1.size _
            refine ⟨k + 1, A3, c3, M ++ [x], by go_num, by rw [hl], (show L.length - (k + 1) + (k + 1) = L.length by have := HX.out.2.1; omega), h2.symm, hbA.grown hg3 hbA.size (fun g hg => ho.out g hg), ?_, fun g hg => ?_⟩
            · show Sl w9 5 _ _ _
              rw [hl, flatV_append]
              exact hs3
            · rw [hl] at hg
              rcases hv3 with e | e
              · rw [e] at hg; exact ho.out g hg
              · rw [e] at hg; injection hg with hg; have := hbA.size; omega
        · have hq2 : nearR t n x = false := by simpa using hq
          rw [hq2]
          go_wp2_with (fail)
          go_roundg (L.length - (k + 1))
          case measure => have := hg.out; have := HX.out.2.1; omega
          case rel =>
            have h2 := HY.out.2.1
            rw [if_neg hq, List.append_nil] at h2
            exact ⟨k + 1, Al, cl, M, by go_num, rfl, (show L.length - (k + 1) + (k + 1) = L.length by have := HX.out.2.1; omega), h2.symm, HY.out.1, HY.out.2.2, ho.out⟩
      · have hltI : ¬ (k : Int) < (L.length : Int) := by omega
        have hM2 : M = L.filter (nearR t n) := by have := hM.out; rwa [List.take_of_length_le (by omega)] at this
        have hMr : ∀ r ∈ M, r ∈ L := fun r hr => by rw [hM2] at hr; exact (List.mem_filter.1 hr).1
        have hMl : M.length ≤ L.length := by rw [hM2]; exact List.length_filter_le _ _
        have HM := Lib.hid (And.intro hM2 (And.intro hMr hMl))
        clear hM hM2 hMr hMl
        go_wp2_with (fail)
        have HRA := Lib.hid (right_any Al M.length cl wr)
        with_reducible refine HRA.out.mono ?_
        rintro e W4 ⟨rfl, hW4⟩
        have hb4 : Below wr.heap.size wr W4 := by rw [hW4]; exact (Below.refl _ _).alloc (Nat.le_refl _) _
        have hB4 : Blk W4 wr.heap.size 41 #[.slice Al M.length cl] := by rw [hW4]; exact Blk.new _ _ _
        have hT4 : RTab W4 Al M := (rtab_of_sl hs.out).below hb4
        have hx4 : ∀ e ∈ M, e.n.size ≤ maxLen ∧ e.d.size ≤ 140737488355328 := fun e he => by
          have h := HS.out.2.2.2.2.1 e (HM.out.2.1 e he)
          unfold maxLen
          omega
        have hMl := HM.out.2.2
        have hSK := right1_K wr.heap.size cl Al M (fun i => i < W4.heap.size) W4 hB4 hT4 hB4.lt (fun hp a ha => by
          obtain ⟨b9, off9, h9, h10, _⟩ := hT4 hp
          rw [ha] at h9
          injection h9 with h9
          rw [h9]
          exact h10) (by omega) hx4
        obtain ⟨R, hR⟩ : ∃ R, rightL M = R := ⟨_, rfl⟩
        rw [hR] at hSK
        have hRl : R.length ≤ M.length := by rw [← hR]; exact List.length_filter_le _ _
        have hRr : ∀ r ∈ R, r ∈ L := fun r hr => HM.out.2.1 r (by rw [← hR] at hr; exact (List.mem_filter.1 hr).1)
        have HCO := Lib.hid (collectR_any R W4 hSK (fun i hi => hi) (fun args w => by rfl) (by omega))
        have h4 : Below V.heap.size V W4 := hb.out.trans (hb4.mono hb.out.size)
        have HR := Lib.hid (And.intro h4 (And.intro hR (And.intro hRr hRl)))
        clear hW4 hb4 hB4 hT4 hx4 hSK h4 hR hRr hRl HRA
        go_wp2_with (fail)
        with_reducible refine HCO.out.mono ?_
        rintro e w5 ⟨A5, c5, rfl, hs5, ho5, hb5⟩
        have h5 : Below V.heap.size V w5 := HR.out.1.trans (hb5.mono HR.out.1.size)
        have H5 := Lib.hid (And.intro h5 (And.intro hs5 (HV.out.1.trans (h5.mono HV.out.1.size))))
        have n0 := (HV.out.2.1.below h5 HV.out.2.1.lt).cell 0
        have t0 := (HV.out.2.2.1.below h5 HV.out.2.2.1.lt).cell 0
        have S5 := Lib.hid (HV.out.2.2.2.1.below h5 HV.out.2.2.2.1.lt)
        have s0 := S5.out.cell 0
        have s1 := S5.out.cell 1
        have s2 := S5.out.cell 2
        have s3 := S5.out.cell 3
        have z0 := S5.out.frozen 0
        have z1 := S5.out.frozen 1
        have z2 := S5.out.frozen 2
        have z3 := S5.out.frozen 3
        clear h5 hs5 ho5 hb5 HCO
        by_cases hR0 : R = []
        · have hRl : R.length = 0 := by rw [hR0]; rfl
          have hRlI : (R.length : Int) = 0 := by omega
          go_wp2_with (fail)
          obtain ⟨hN1, hN2⟩ := no_set S5.out H5.out.2.2 (by omega)
          obtain ⟨W9, hW9⟩ : ∃ W9, (((w5.setCell ⟨w.heap.size + 1 + 1, 0, none⟩ (.string ⟨#[]⟩)).setCell ⟨w.heap.size + 1 + 1, 1, none⟩ (.int .u16 0)).setCell ⟨w.heap.size + 1 + 1, 2, none⟩ (.int .u32 0)).setCell ⟨w.heap.size + 1 + 1, 3, none⟩ (.slice none 0 0) = W9 := ⟨_, rfl⟩
          rw [hW9] at hN1 hN2
          rw [hW9]
          clear s0 s1 s2 s3
          have e0 := hN1.cell 0
          have e1 := hN1.cell 1
          have e2 := hN1.cell 2
          have e3 := hN1.cell 3
          exact bodyPost_ret (v := .tuple #[.agg #[.string ⟨#[]⟩, .int .u16 0, .int .u32 0, .slice none 0 0], .int .i64 3]) (by simp [results, Try.results28, go_sem, e0, e1, e2, e3]) rfl (.inr (.inl ⟨hk0, by rw [← HM.out.1, HR.out.2.1, hR0], rfl, hN2⟩))
        · have hRp : 0 < R.length := by cases R with
            | nil => exact absurd rfl hR0
            | cons _ _ => simp
          have hRlI : ¬ (R.length : Int) = 0 := by omega
          have HBU := Lib.hid (build_any hm n t A5 c5 R w5 (rtab_of_sl H5.out.2.1) (by omega) (by have := HS.out.2.1; have := HR.out.2.2.2; omega) (by have := HR.out.2.2.2; omega) (fun r hr => (HS.out.2.2.2.2.1 r (HR.out.2.2.1 r hr)).2))
          go_wp2_with (fail)
          with_reducible refine HBU.out.mono ?_
          rintro e w6 ⟨P, ds, Ad, cd, hP1, hP2, hds, rfl, hS6, ho6, hb6⟩
          have HDS := Lib.hid hds
          clear hds
          have hbs : w.heap.size + 1 + 1 < w5.heap.size := S5.out.lt
          have S6 := S5.out.below hb6 S5.out.lt
          have H6 := Lib.hid (And.intro hS6 (And.intro (H5.out.2.2.trans (hb6.mono H5.out.2.2.size)) S6))
          clear n0 t0 s0 s1 s2 s3 z0 z1 z2 z3 hb6 hS6
          have s0 := S6.cell 0
          have s1 := S6.cell 1
          have s2 := S6.cell 2
          have s3 := S6.cell 3
          have z0 := S6.frozen 0
          have z1 := S6.frozen 1
          have z2 := S6.frozen 2
          have z3 := S6.frozen 3
          clear S6
          unfold setV
          obtain ⟨lm, hlm⟩ : ∃ lm, minL R = lm := ⟨_, rfl⟩
          rw [hlm]
          go_wp2_with (fail)
          obtain ⟨W9, hW9⟩ : ∃ W9, (((w6.setCell ⟨w.heap.size + 1 + 1, 0, none⟩ (.string n)).setCell ⟨w.heap.size + 1 + 1, 1, none⟩ (.int .u16 t)).setCell ⟨w.heap.size + 1 + 1, 2, none⟩ (.int .u32 lm)).setCell ⟨w.heap.size + 1 + 1, 3, none⟩ (.slice Ad ds.length cd) = W9 := ⟨_, rfl⟩
          rw [hW9]
          have hN1 : Blk W9 (w.heap.size + 1 + 1) 49 #[.string n, .int .u16 t, .int .u32 lm, .slice Ad ds.length cd] := by
            rw [← hW9]
            have h := (((H6.out.2.2.set_ 0 (.string n)).set_ 1 (.int .u16 t)).set_ 2 (.int .u32 lm)).set_ 3 (.slice Ad ds.length cd)
            simpa using h
          have hfar : ∀ h, (Value.slice Ad ds.length cd).ownBlock = some h → h ≠ w.heap.size + 1 + 1 := fun h hh => by have := ho6 h hh; omega
          have hS9 : Sl W9 1 (.slice Ad ds.length cd) ds.length (ds.map Value.string) := by
            rw [← hW9]
            exact (((H6.out.1.far (p := ⟨w.heap.size + 1 + 1, 0, none⟩) hfar _).far (p := ⟨w.heap.size + 1 + 1, 1, none⟩) hfar _).far (p := ⟨w.heap.size + 1 + 1, 2, none⟩) hfar _).far (p := ⟨w.heap.size + 1 + 1, 3, none⟩) hfar _
          have hB9 : Below w.heap.size w W9 := by
            rw [← hW9]
            have hle : w.heap.size ≤ w.heap.size + 1 + 1 := by omega
            exact (((H6.out.2.1.setCell (p := ⟨w.heap.size + 1 + 1, 0, none⟩) hle _).setCell (p := ⟨w.heap.size + 1 + 1, 1, none⟩) hle _).setCell (p := ⟨w.heap.size + 1 + 1, 2, none⟩) hle _).setCell (p := ⟨w.heap.size + 1 + 1, 3, none⟩) hle _
          clear s0 s1 s2 s3 z0 z1 z2 z3
          have e0 := hN1.cell 0
          have e1 := hN1.cell 1
          have e2 := hN1.cell 2
          have e3 := hN1.cell 3
          refine bodyPost_ret (v := .tuple #[.agg #[.string n, .int .u16 t, .int .u32 lm, .slice Ad ds.length cd], .int .i64 0]) (by simp [results, Try.results28, go_sem, e0, e1, e2, e3]) rfl (.inr (.inr ⟨hk0, ?_, ?_⟩))
          · rw [← HM.out.1, HR.out.2.1]; exact hR0
          · rw [← HM.out.1, HR.out.2.1]
            exact ⟨P, ds, Ad, cd, hP1, hP2, HDS.out, by rw [← hlm]; rfl, hS9, fun h hh => by have := ho6 h hh; omega, hB9⟩
  · go_wp2_with (fail)
    obtain ⟨hN1, hN2⟩ := no_set HB.out.2.2.2 HB.out.1 (by omega)
    obtain ⟨W9, hW9⟩ : ∃ W9, (((w2.setCell ⟨w.heap.size + 1 + 1, 0, none⟩ (.string ⟨#[]⟩)).setCell ⟨w.heap.size + 1 + 1, 1, none⟩ (.int .u16 0)).setCell ⟨w.heap.size + 1 + 1, 2, none⟩ (.int .u32 0)).setCell ⟨w.heap.size + 1 + 1, 3, none⟩ (.slice none 0 0) = W9 := ⟨_, rfl⟩
    rw [hW9] at hN1 hN2
    rw [hW9]
    clear s0 s1 s2 s3
    have e0 := hN1.cell 0
    have e1 := hN1.cell 1
    have e2 := hN1.cell 2
    have e3 := hN1.cell 3
    exact bodyPost_ret (v := .tuple #[.agg #[.string ⟨#[]⟩, .int .u16 0, .int .u32 0, .slice none 0 0], .int .i64 3]) (by simp [results, Try.results28, go_sem, e0, e1, e2, e3]) rfl (.inl ⟨by rw [hk0]; exact hk, rfl, hN2⟩)
end Go.Proofs.Ytfipacfompihkaa
