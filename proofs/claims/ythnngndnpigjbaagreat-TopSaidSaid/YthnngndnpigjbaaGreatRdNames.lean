/- The walks of package rdata's look, Check, Names. Conditions: none. -/
import Derived.Test.YthnngndnpigjbaaGreatRdCheck
import Derived.Deep.CutBlock
import Derived.Deep.DeepCutAuto
namespace Go.Proofs.YthnngndnpigjbaaGreat
open Go.RowKit Go.Lib

def LookPost (t : Int) (l : Bs) (w : World) (e : Ending) (w' : World) : Prop :=
  (lookN t l = none ∧ ∃ f : Nat × Nat × Nat, e = .returned (.tuple #[formV f, noParts, .bool false]) ∧ Below w.heap.size w w') ∨
  ∃ f p A c, formN t = some f ∧ lookN t l = some p ∧ e = .returned (.tuple #[formV f, partsV p A c, .bool true]) ∧ Sl w' 1 (.slice A p.2.1.length c) p.2.1.length (strs p.2.1) ∧ (∀ i, (Value.slice A p.2.1.length c).ownBlock = some i → w.heap.size ≤ i) ∧ Below w.heap.size w w'
theorem formN_le {t : Int} {f : Nat × Nat × Nat} (h : formN t = some f) : f.1 ≤ 3 ∧ f.2.1 ≤ 2 ∧ f.2.2 ≤ 5 := by
  unfold formN at h
  split at h
  · injection h with h; subst h; decide
  · split at h
    · injection h with h; subst h; decide
    · split at h
      · injection h with h; subst h; decide
      · split at h
        · injection h with h; subst h; decide
        · cases h

theorem sets6 {w W : World} {T1 T2 : TypeId} {a0 a1 a2 p0 p1 p2 : Value} (gA : Blk W w.heap.size T1 #[a0, a1, a2]) (gP : Blk W (w.heap.size + 1) T2 #[p0, p1, p2]) (hb : Below w.heap.size w W) (x0 x1 x2 y0 y1 y2 : Value) :
    Blk ((((((W.setCell ⟨w.heap.size, 0, none⟩ x0).setCell ⟨w.heap.size, 1, none⟩ x1).setCell ⟨w.heap.size, 2, none⟩ x2).setCell ⟨w.heap.size + 1, 0, none⟩ y0).setCell ⟨w.heap.size + 1, 1, none⟩ y1).setCell ⟨w.heap.size + 1, 2, none⟩ y2) w.heap.size T1 #[x0, x1, x2] ∧
    Blk ((((((W.setCell ⟨w.heap.size, 0, none⟩ x0).setCell ⟨w.heap.size, 1, none⟩ x1).setCell ⟨w.heap.size, 2, none⟩ x2).setCell ⟨w.heap.size + 1, 0, none⟩ y0).setCell ⟨w.heap.size + 1, 1, none⟩ y1).setCell ⟨w.heap.size + 1, 2, none⟩ y2) (w.heap.size + 1) T2 #[y0, y1, y2] ∧
    Below w.heap.size w ((((((W.setCell ⟨w.heap.size, 0, none⟩ x0).setCell ⟨w.heap.size, 1, none⟩ x1).setCell ⟨w.heap.size, 2, none⟩ x2).setCell ⟨w.heap.size + 1, 0, none⟩ y0).setCell ⟨w.heap.size + 1, 1, none⟩ y1).setCell ⟨w.heap.size + 1, 2, none⟩ y2) ∧
    KeepK (fun i => i < W.heap.size ∧ i ≠ w.heap.size ∧ i ≠ w.heap.size + 1) W ((((((W.setCell ⟨w.heap.size, 0, none⟩ x0).setCell ⟨w.heap.size, 1, none⟩ x1).setCell ⟨w.heap.size, 2, none⟩ x2).setCell ⟨w.heap.size + 1, 0, none⟩ y0).setCell ⟨w.heap.size + 1, 1, none⟩ y1).setCell ⟨w.heap.size + 1, 2, none⟩ y2) := by
  refine ⟨?_, ?_, ?_, ?_⟩
  · have h := ((((((gA.set_ 0 x0).set_ 1 x1).set_ 2 x2).far (p := ⟨w.heap.size + 1, 0, none⟩) (by show w.heap.size ≠ w.heap.size + 1; omega) y0).far (p := ⟨w.heap.size + 1, 1, none⟩) (by show w.heap.size ≠ w.heap.size + 1; omega) y1).far (p := ⟨w.heap.size + 1, 2, none⟩) (by show w.heap.size ≠ w.heap.size + 1; omega) y2)
    simpa using h
  · have h := ((((((gP.far (p := ⟨w.heap.size, 0, none⟩) (by show w.heap.size + 1 ≠ w.heap.size; omega) x0).far (p := ⟨w.heap.size, 1, none⟩) (by show w.heap.size + 1 ≠ w.heap.size; omega) x1).far (p := ⟨w.heap.size, 2, none⟩) (by show w.heap.size + 1 ≠ w.heap.size; omega) x2).set_ 0 y0).set_ 1 y1).set_ 2 y2)
    simpa using h
  · exact (((((hb.setCell (by show w.heap.size ≤ w.heap.size; omega) _).setCell (by show w.heap.size ≤ w.heap.size; omega) _).setCell (by show w.heap.size ≤ w.heap.size; omega) _).setCell (by show w.heap.size ≤ w.heap.size + 1; omega) _).setCell (by show w.heap.size ≤ w.heap.size + 1; omega) _).setCell (by show w.heap.size ≤ w.heap.size + 1; omega) _
  · exact ((((((KeepK.refl _ W).setCell (p := ⟨w.heap.size, 0, none⟩) (fun i hi => hi.2.1) _).setCell (p := ⟨w.heap.size, 1, none⟩) (fun i hi => hi.2.1) _).setCell (p := ⟨w.heap.size, 2, none⟩) (fun i hi => hi.2.1) _).setCell (p := ⟨w.heap.size + 1, 0, none⟩) (fun i hi => hi.2.2) _).setCell (p := ⟨w.heap.size + 1, 1, none⟩) (fun i hi => hi.2.2) _).setCell (p := ⟨w.heap.size + 1, 2, none⟩) (fun i hi => hi.2.2) _

set_option maxRecDepth 100000 in
set_option maxHeartbeats 4000000 in
theorem look_any (t : Int) (s : ByteArray) (hs : s.size ≤ 140737488355328) (w : World) : Calls Tryz.prog 48 #[.int .u16 t, .string s] w (LookPost t s.data.toList w) := by
  obtain ⟨l, hl⟩ : ∃ l, s.data.toList = l := ⟨_, rfl⟩
  have hll : l.length = s.size := by rw [← hl]; simp
  rw [hl]
  have HFO := Lib.hid (fun W => formOf_any t W)
  have HL := Lib.hid (And.intro hl (And.intro hll hs))
  have hsI : (s.size : Int) ≤ 140737488355328 := by omega
  clear hl hll hs
  go_enter Tryz.func48, Tryz.ntmps48
  go_wp2_with (fail)
  with_reducible refine (HFO.out _).mono ?_
  rintro e w2 ⟨rfl, hb⟩
  have hz : ((w.alloc (.cells #[.int .i64 0, .int .i64 0, .int .i64 0] 95)).alloc (.cells #[.string ⟨#[]⟩, .slice none 0 0, .string ⟨#[]⟩] 97)).heap.size = w.heap.size + 2 := by simp
  have hb0 : Below w.heap.size w ((w.alloc (.cells #[.int .i64 0, .int .i64 0, .int .i64 0] 95)).alloc (.cells #[.string ⟨#[]⟩, .slice none 0 0, .string ⟨#[]⟩] 97)) := ((Below.refl _ _).alloc (Nat.le_refl _) _).alloc (by simp) _
  have hA : Blk _ _ _ _ := (Blk.alloc (Blk.new w 95 #[.int .i64 0, .int .i64 0, .int .i64 0]) (.cells #[.string ⟨#[]⟩, .slice none 0 0, .string ⟨#[]⟩] 97))
  have hP : Blk _ _ _ _ := heap_alloc2_new w (.cells #[.int .i64 0, .int .i64 0, .int .i64 0] 95) (.cells #[.string ⟨#[]⟩, .slice none 0 0, .string ⟨#[]⟩] 97)
  have hA2 := hA.below hb hA.lt
  have hP2 := hP.below hb hP.lt
  rw [hz] at hb
  have hb2 : Below w.heap.size w w2 := hb0.trans (hb.mono (by omega))
  have hsz : w.heap.size + 2 ≤ w2.heap.size := by have := hb.size; omega
  obtain ⟨B2, hB2⟩ : ∃ B2, w2.heap.size = B2 := ⟨_, rfl⟩
  cases hf : formN t with
  | none =>
    have e1 : formT t = ((0, 0, 0), false) := by unfold formT; rw [hf]
    have ev : formV (formT t).1 = .agg #[.int .i64 0, .int .i64 0, .int .i64 0] := by rw [e1]; rfl
    have eb : (formT t).2 = false := by rw [e1]
    have hq : lookN t l = none := by unfold lookN; rw [hf]
    rw [ev, eb]
    obtain ⟨W, hW⟩ : ∃ W, w2.alloc (.cells #[.int .i64 0, .int .i64 0, .int .i64 0] 95) = W := ⟨_, rfl⟩
    have gA : Blk W w.heap.size 95 #[.int .i64 0, .int .i64 0, .int .i64 0] := by rw [← hW]; exact hA2.alloc _
    have gP : Blk W (w.heap.size + 1) 97 #[.string ⟨#[]⟩, .slice none 0 0, .string ⟨#[]⟩] := by rw [← hW]; exact hP2.alloc _
    have hbW : Below w.heap.size w W := by rw [← hW]; exact hb2.alloc (by omega) _
    have HW := Lib.hid hW
    have d0 : W.cell? ⟨w.heap.size, 0, none⟩ = some (.int .i64 0) := gA.cell 0
    have d1 : W.cell? ⟨w.heap.size, 1, none⟩ = some (.int .i64 0) := gA.cell 1
    have d2 : W.cell? ⟨w.heap.size, 2, none⟩ = some (.int .i64 0) := gA.cell 2
    have p0 : W.frozen? ⟨w.heap.size, 0, none⟩ = false := gA.frozen 0
    have p1 : W.frozen? ⟨w.heap.size, 1, none⟩ = false := gA.frozen 1
    have p2 : W.frozen? ⟨w.heap.size, 2, none⟩ = false := gA.frozen 2
    have b0 : W.cell? ⟨w.heap.size + 1, 0, none⟩ = some (.string ⟨#[]⟩) := gP.cell 0
    have b1 : W.cell? ⟨w.heap.size + 1, 1, none⟩ = some (.slice none 0 0) := gP.cell 1
    have b2 : W.cell? ⟨w.heap.size + 1, 2, none⟩ = some (.string ⟨#[]⟩) := gP.cell 2
    have q0 : W.frozen? ⟨w.heap.size + 1, 0, none⟩ = false := gP.frozen 0
    have q1 : W.frozen? ⟨w.heap.size + 1, 1, none⟩ = false := gP.frozen 1
    have q2 : W.frozen? ⟨w.heap.size + 1, 2, none⟩ = false := gP.frozen 2
    have HQ := Lib.hid (And.intro hq (And.intro hbW (And.intro gA gP)))
    clear hb hb0 hA hP hA2 hP2 hb2 e1 ev eb hq hf hz gA gP hbW hB2 hW
    go_upto_region 2 with (fail)
    rw [HW.out]
    go_wp2_with (fail)
    have hs6 := sets6 HQ.out.2.2.1 HQ.out.2.2.2 HQ.out.2.1 (.int .i64 0) (.int .i64 0) (.int .i64 0) (.string ⟨#[]⟩) (.slice none 0 0) (.string ⟨#[]⟩)
    refine bodyPost_ret (res_cct rfl _ _ w.heap.size (w.heap.size + 1) 95 97 #[.int .i64 0, .int .i64 0, .int .i64 0] #[.string ⟨#[]⟩, .slice none 0 0, .string ⟨#[]⟩] _ _ rfl hs6.1 Tryz.underlying95 rfl form_cells rfl hs6.2.1 Tryz.underlying97 rfl parts_cells) rfl ?_
    exact .inl ⟨HQ.out.1, (0, 0, 0), rfl, hs6.2.2.1⟩
  | some f =>
    have e1 : formT t = (f, true) := by unfold formT; rw [hf]
    have ev : formV (formT t).1 = .agg #[.int .i64 (f.1 : Int), .int .i64 (f.2.1 : Int), .int .i64 (f.2.2 : Int)] := by rw [e1]; rfl
    have eb : (formT t).2 = true := by rw [e1]
    rw [ev, eb]
    obtain ⟨W, hW⟩ : ∃ W, w2.alloc (.cells #[.int .i64 (f.1 : Int), .int .i64 (f.2.1 : Int), .int .i64 (f.2.2 : Int)] 95) = W := ⟨_, rfl⟩
    have gA : Blk W w.heap.size 95 #[.int .i64 0, .int .i64 0, .int .i64 0] := by rw [← hW]; exact hA2.alloc _
    have gP : Blk W (w.heap.size + 1) 97 #[.string ⟨#[]⟩, .slice none 0 0, .string ⟨#[]⟩] := by rw [← hW]; exact hP2.alloc _
    have gF : Blk W B2 95 #[.int .i64 (f.1 : Int), .int .i64 (f.2.1 : Int), .int .i64 (f.2.2 : Int)] := by rw [← hW, ← hB2]; exact Blk.new w2 _ _
    have hbW : Below w.heap.size w W := by rw [← hW]; exact hb2.alloc (by omega) _
    have hWs : W.heap.size = B2 + 1 := by rw [← hW, ← hB2]; simp
    have hB2s : w.heap.size + 2 ≤ B2 := by omega
    have HW := Lib.hid hW
    have HE := Lib.hid (And.intro hf (And.intro hWs hB2s))
    by_cases hbig : 4096 < s.size
    · have hI : (4096 : Int) < (s.size : Int) := by omega
      have hq : lookN t l = none := by unfold lookN; rw [hf]; dsimp only; rw [if_neg (by rw [HL.out.2.1]; omega)]
      have d0 : W.cell? ⟨w.heap.size, 0, none⟩ = some (.int .i64 0) := gA.cell 0
      have d1 : W.cell? ⟨w.heap.size, 1, none⟩ = some (.int .i64 0) := gA.cell 1
      have d2 : W.cell? ⟨w.heap.size, 2, none⟩ = some (.int .i64 0) := gA.cell 2
      have p0 : W.frozen? ⟨w.heap.size, 0, none⟩ = false := gA.frozen 0
      have p1 : W.frozen? ⟨w.heap.size, 1, none⟩ = false := gA.frozen 1
      have p2 : W.frozen? ⟨w.heap.size, 2, none⟩ = false := gA.frozen 2
      have b0 : W.cell? ⟨w.heap.size + 1, 0, none⟩ = some (.string ⟨#[]⟩) := gP.cell 0
      have b1 : W.cell? ⟨w.heap.size + 1, 1, none⟩ = some (.slice none 0 0) := gP.cell 1
      have b2 : W.cell? ⟨w.heap.size + 1, 2, none⟩ = some (.string ⟨#[]⟩) := gP.cell 2
      have q0 : W.frozen? ⟨w.heap.size + 1, 0, none⟩ = false := gP.frozen 0
      have q1 : W.frozen? ⟨w.heap.size + 1, 1, none⟩ = false := gP.frozen 1
      have q2 : W.frozen? ⟨w.heap.size + 1, 2, none⟩ = false := gP.frozen 2
      have HQ := Lib.hid (And.intro hq (And.intro hbW (And.intro gA gP)))
      clear hb hb0 hA hP hA2 hP2 hb2 e1 ev eb hq hf hz gA gP gF hbW hW hbig hWs
      go_upto_region 2 with (fail)
      rw [HW.out]
      try rw [hB2]
      clear hB2
      go_wp2_with (fail)
      have hs6 := sets6 HQ.out.2.2.1 HQ.out.2.2.2 HQ.out.2.1 (.int .i64 0) (.int .i64 0) (.int .i64 0) (.string ⟨#[]⟩) (.slice none 0 0) (.string ⟨#[]⟩)
      refine bodyPost_ret (res_cct rfl _ _ w.heap.size (w.heap.size + 1) 95 97 #[.int .i64 0, .int .i64 0, .int .i64 0] #[.string ⟨#[]⟩, .slice none 0 0, .string ⟨#[]⟩] _ _ rfl hs6.1 Tryz.underlying95 rfl form_cells rfl hs6.2.1 Tryz.underlying97 rfl parts_cells) rfl ?_
      exact .inl ⟨HQ.out.1, (0, 0, 0), rfl, hs6.2.2.1⟩
    · have hI : ¬ (4096 : Int) < (s.size : Int) := by omega
      have hlk : lookN t l = cutN f l := by unfold lookN; rw [hf]; dsimp only; rw [if_pos (by rw [HL.out.2.1]; omega)]
      have f0 : W.cell? ⟨B2, 0, none⟩ = some (.int .i64 (f.1 : Int)) := gF.cell 0
      have f1 : W.cell? ⟨B2, 1, none⟩ = some (.int .i64 (f.2.1 : Int)) := gF.cell 1
      have f2 : W.cell? ⟨B2, 2, none⟩ = some (.int .i64 (f.2.2 : Int)) := gF.cell 2
      have HC := Lib.hid (rdCut_any f (formN_le hf) s HL.out.2.2 W)
      rw [HL.out.1, ← hlk] at HC
      unfold formV at HC
      have HQ := Lib.hid (And.intro hbW (And.intro gA (And.intro gP gF)))
      clear hb hb0 hA hP hA2 hP2 hb2 e1 ev eb hf hz gA gP gF hbW hW hbig hWs hlk
      go_upto_region 2 with (fail)
      rw [HW.out]
      try rw [hB2]
      clear hB2
      go_wp2_with (fail)
      with_reducible refine HC.out.mono ?_
      rintro e w4 hpost
      clear HC
      obtain ⟨a, A, n, c, r, bb, rfl, hb4, hfin⟩ : ∃ (a : ByteArray) (A : Option Addr) (n c : Nat) (r : ByteArray) (bb : Bool), e = .returned (.tuple #[.agg #[.string a, .slice A n c, .string r], .bool bb]) ∧ Below W.heap.size W w4 ∧
          (∀ F e', KeepK (fun i => i < w4.heap.size ∧ i ≠ w.heap.size ∧ i ≠ w.heap.size + 1) w4 F → Below w.heap.size w F → e' = .returned (.tuple #[formV f, .agg #[.string a, .slice A n c, .string r], .bool bb]) → LookPost t l w e' F) := by
        rcases hpost with ⟨hq, rfl, hb4⟩ | ⟨p, A, c, hq, rfl, hS, hO, hb4⟩
        · exact ⟨_, _, _, _, _, _, rfl, hb4, fun F e' _ hF he => .inl ⟨hq, f, he, hF⟩⟩
        · exact ⟨_, _, _, _, _, _, rfl, hb4, fun F e' hk hF he => .inr ⟨f, p, A, c, HE.out.1, hq, he, hS.keepK hk (fun i hi => ⟨hS.lt i hi, by have := hO i hi; have := HE.out.2; omega, by have := hO i hi; have := HE.out.2; omega⟩), (fun i hi => by have := hO i hi; have := HE.out.2; omega), hF⟩⟩
      have HFIN := Lib.hid hfin
      obtain ⟨B3, hB3⟩ : ∃ B3, w4.heap.size = B3 := ⟨_, rfl⟩
      have hB3s : B2 + 1 ≤ B3 := by have := hb4.size; have := HE.out.2.1; omega
      obtain ⟨V, hV⟩ : ∃ V, w4.alloc (.cells #[.string a, .slice A n c, .string r] 97) = V := ⟨_, rfl⟩
      have gA : Blk V w.heap.size 95 #[.int .i64 0, .int .i64 0, .int .i64 0] := by rw [← hV]; exact (HQ.out.2.1.below hb4 HQ.out.2.1.lt).alloc _
      have gP : Blk V (w.heap.size + 1) 97 #[.string ⟨#[]⟩, .slice none 0 0, .string ⟨#[]⟩] := by rw [← hV]; exact (HQ.out.2.2.1.below hb4 HQ.out.2.2.1.lt).alloc _
      have gF : Blk V B2 95 #[.int .i64 (f.1 : Int), .int .i64 (f.2.1 : Int), .int .i64 (f.2.2 : Int)] := by rw [← hV]; exact (HQ.out.2.2.2.below hb4 HQ.out.2.2.2.lt).alloc _
      have gX : Blk V B3 97 #[.string a, .slice A n c, .string r] := by rw [← hV, ← hB3]; exact Blk.new w4 _ _
      have hbV : Below w.heap.size w V := by rw [← hV]; exact (HQ.out.1.trans (hb4.mono HQ.out.1.size)).alloc (by omega) _
      have hkV : KeepK (fun i => i < w4.heap.size) w4 V := by rw [← hV]; exact (KeepK.refl _ w4).alloc (fun i hi => hi) _
      clear f0 f1 f2
      have d0 : V.cell? ⟨w.heap.size, 0, none⟩ = some (.int .i64 0) := gA.cell 0
      have d1 : V.cell? ⟨w.heap.size, 1, none⟩ = some (.int .i64 0) := gA.cell 1
      have d2 : V.cell? ⟨w.heap.size, 2, none⟩ = some (.int .i64 0) := gA.cell 2
      have p0 : V.frozen? ⟨w.heap.size, 0, none⟩ = false := gA.frozen 0
      have p1 : V.frozen? ⟨w.heap.size, 1, none⟩ = false := gA.frozen 1
      have p2 : V.frozen? ⟨w.heap.size, 2, none⟩ = false := gA.frozen 2
      have b0 : V.cell? ⟨w.heap.size + 1, 0, none⟩ = some (.string ⟨#[]⟩) := gP.cell 0
      have b1 : V.cell? ⟨w.heap.size + 1, 1, none⟩ = some (.slice none 0 0) := gP.cell 1
      have b2 : V.cell? ⟨w.heap.size + 1, 2, none⟩ = some (.string ⟨#[]⟩) := gP.cell 2
      have q0 : V.frozen? ⟨w.heap.size + 1, 0, none⟩ = false := gP.frozen 0
      have q1 : V.frozen? ⟨w.heap.size + 1, 1, none⟩ = false := gP.frozen 1
      have q2 : V.frozen? ⟨w.heap.size + 1, 2, none⟩ = false := gP.frozen 2
      have f0 : V.cell? ⟨B2, 0, none⟩ = some (.int .i64 (f.1 : Int)) := gF.cell 0
      have f1 : V.cell? ⟨B2, 1, none⟩ = some (.int .i64 (f.2.1 : Int)) := gF.cell 1
      have f2 : V.cell? ⟨B2, 2, none⟩ = some (.int .i64 (f.2.2 : Int)) := gF.cell 2
      have x0 : V.cell? ⟨B3, 0, none⟩ = some (.string a) := gX.cell 0
      have x1 : V.cell? ⟨B3, 1, none⟩ = some (.slice A n c) := gX.cell 1
      have x2 : V.cell? ⟨B3, 2, none⟩ = some (.string r) := gX.cell 2
      have HG := Lib.hid (And.intro gA (And.intro gP (And.intro hbV (And.intro hkV hV))))
      have hVs : w4.heap.size ≤ V.heap.size := hkV.size
      have hs6 := sets6 gA gP hbV (.int .i64 (f.1 : Int)) (.int .i64 (f.2.1 : Int)) (.int .i64 (f.2.2 : Int)) (.string a) (.slice A n c) (.string r)
      have HS6 := Lib.hid hs6
      clear hpost hfin hb4 gA gP gF gX hbV hkV hV hs6
      go_upto_region 5 with (fail)
      rw [HG.out.2.2.2.2]
      try rw [hB3]
      clear hB3
      go_region
      go_wp2_with (fail)
      refine bodyPost_ret (res_cct rfl _ _ w.heap.size (w.heap.size + 1) 95 97 #[.int .i64 (f.1 : Int), .int .i64 (f.2.1 : Int), .int .i64 (f.2.2 : Int)] #[.string a, .slice A n c, .string r] _ _ rfl HS6.out.1.drew Tryz.underlying95 rfl form_cells rfl HS6.out.2.1.drew Tryz.underlying97 rfl parts_cells) rfl ?_
      exact HFIN.out _ _ ((HG.out.2.2.2.1.mono fun i hi => hi.1).trans (HS6.out.2.2.2.mono fun i hi => ⟨by omega, hi.2⟩)).drew HS6.out.2.2.1.drew rfl

def NamesPost (q : Option (Bs × List Bs × Bs)) (w : World) (e : Ending) (w' : World) : Prop :=
  ∃ A c, e = .returned (.slice A ((q.map (·.2.1)).getD []).length c) ∧ Sl w' 1 (.slice A ((q.map (·.2.1)).getD []).length c) ((q.map (·.2.1)).getD []).length (strs ((q.map (·.2.1)).getD [])) ∧ (∀ i, (Value.slice A ((q.map (·.2.1)).getD []).length c).ownBlock = some i → w.heap.size ≤ i) ∧ Below w.heap.size w w'
end Go.Proofs.YthnngndnpigjbaaGreat
