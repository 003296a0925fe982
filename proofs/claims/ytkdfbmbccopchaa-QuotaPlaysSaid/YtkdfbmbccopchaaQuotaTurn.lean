/- The walk of hardtacklaw44.QuotaTurn. -/
import Derived.Test.YtkdfbmbccopchaaTurnM
namespace Go.Proofs.Ytkdfbmbccopchaa
open Go.RowKit Go.Lib

theorem info_act : (Try.prog.info? 30).map (fun i => (i.zero, i.size, i.bytes)) = some (some (.agg #[.int .i64 0, .int .u32 0, .int .i64 0]), 3, 24) := by kernel_rfl
theorem src_act (w : World) (t : TypeId) (e : QAct) : Src Try.prog 3 22 (.slice (some ⟨w.heap.size, 0, none⟩) 1 1) 1 (flatA [e]) (w.alloc (.cells #[.int .i64 e.k, .int .u32 e.c, .int .i64 e.i] t)) := by
  rw [flatA_one]
  exact Src.ofSlice _ Try.underlying22 ⟨w.heap.size, 0, none⟩ 1 1 [.int .i64 e.k, .int .u32 e.c, .int .i64 e.i] rfl (fun j x hx => by
    match j, hx with
    | 0, hx => simp at hx; subst hx; simp [Addr.add]
    | 1, hx => simp at hx; subst hx; simp [Addr.add]
    | 2, hx => simp at hx; subst hx; simp [Addr.add]
    | j + 3, hx => simp at hx) (fun x hx => by
    simp at hx
    rcases hx with rfl | rfl | rfl <;> rfl)
/-- The queue and the acts that wait. -/
structure TI (w wr : World) (g r c b : Nat) (put : List QAct) (cl : Cl) (pv : Value) (n : Nat) : Prop where
  q : FG w wr g r c b cl (fun i => pv.ownBlock = some i)
  s : Sl wr 3 pv n (flatA put)
  n : put.length = n
  own : ∀ i, pv.ownBlock = some i → w.heap.size ≤ i
  ag : Agree put cl
theorem TI.below {w wr w' : World} {g r c b : Nat} {put : List QAct} {cl : Cl} {pv : Value} {n : Nat} (h : TI w wr g r c b put cl pv n) (hb : Below wr.heap.size wr w') : TI w w' g r c b put cl pv n :=
  ⟨(h.q.fresh h.own (KeepK.of_below hb fun i hi => hi.1)).less fun i hi => .inl hi, h.s.below hb h.s.lt, h.n, h.own, h.ag⟩
theorem FG.back {w0 w1 wr : World} {g room each b : Nat} {cl : Cl} {K : Nat → Prop} (h : FG w1 wr g room each b cl K) (hb : Below w0.heap.size w0 w1) : FG w0 wr g room each b cl K := by
  obtain ⟨O, n', h1, h2, h3, h4⟩ := h
  exact ⟨O, n', h1, fun i hi => ⟨Nat.le_trans hb.size (h2 i hi).1, (h2 i hi).2⟩, h3, hb.trans (h4.mono hb.size)⟩
theorem put_cases (room each : Nat) (cl : Cl) (a id : Int) : (putQ room each cl a id = (addC cl a id, 0) ∧ manyC cl < room) ∨ ∃ z, putQ room each cl a id = (cl, z) ∧ z ≠ 0 := by
  unfold putQ
  split
  · exact .inr ⟨8, rfl, by decide⟩
  · split
    · exact .inr ⟨11, rfl, by decide⟩
    · split
      · exact .inr ⟨4, rfl, by decide⟩
      · exact .inl ⟨rfl, by omega⟩

theorem sl_empty3 (w : World) (t : TypeId) : Sl (w.alloc (.cells #[] t)) 3 (.slice (some ⟨w.heap.size, 0, none⟩) 0 0) 0 (flatA []) :=
  ⟨rfl, .inr ⟨w.heap.size, 0, rfl, by simp, Nat.le_refl _, Nat.zero_le _, fun j hj => absurd hj (by omega), fun j u hu => by simp [flatA] at hu⟩⟩
set_option maxRecDepth 100000 in
theorem head_act (pg n cap S : Nat) (h1 : S ≤ n) (h2 : n ≤ cap) (h3 : cap ≤ 9223372036854775807) (W : World) : (Instr.slice 22 (.slice (some ⟨pg, 0, none⟩) n cap) none (some (.int .i64 (S : Int))) none).run Try.prog W = .ok (.slice (some ⟨pg, 0, none⟩) S cap) W := by
  have hsz : (sizeOf (Try.prog.elem 22)).run Try.prog W = .ok 3 W := by rfl
  rw [run_slice_h (P := Try.prog) W 22 (some ⟨pg, 0, none⟩) n cap Try.underlying22 .i64 (S : Int) (by omega) (by omega), hsz]
  have hadd : (⟨pg, 0, none⟩ : Addr).add 0 = ⟨pg, 0, none⟩ := by rw [Go.WideShapes.add_plain]
  simp [sliced, Result.andThen, hadd]
set_option maxRecDepth 100000 in
theorem tail_act (pg n cap S : Nat) (h1 : S + 1 ≤ n) (h2 : n ≤ cap) (h3 : cap ≤ 9223372036854775807) : ∃ A5, (∀ W : World, (Instr.slice 22 (.slice (some ⟨pg, 0, none⟩) n cap) (some (.int .i64 ((S : Int) + 1))) none none).run Try.prog W = .ok (.slice A5 (n - (S + 1)) (cap - (S + 1))) W) ∧ (A5 = some ⟨pg, (S + 1) * 3, none⟩ ∨ (A5 = some ⟨pg, 0, none⟩ ∧ n = S + 1)) := by
  refine ⟨if cap = S + 1 then some ⟨pg, 0, none⟩ else some ⟨pg, (S + 1) * 3, none⟩, fun W => ?_, ?_⟩
  · have hsz : (sizeOf (Try.prog.elem 22)).run Try.prog W = .ok 3 W := by rfl
    have hadd : ∀ k : Nat, (⟨pg, 0, none⟩ : Addr).add k = ⟨pg, k, none⟩ := fun k => by rw [Go.WideShapes.add_plain, Nat.zero_add]
    rw [run_slice_l (P := Try.prog) W 22 (some ⟨pg, 0, none⟩) n cap Try.underlying22 .i64 ((S : Int) + 1) (by omega) (by omega), hsz]
    have e : ((S : Int) + 1).toNat = S + 1 := by omega
    rw [e]
    simp [sliced, Result.andThen, hadd]
  · by_cases h : cap = S + 1
    · rw [if_pos h]; right; exact ⟨rfl, by omega⟩
    · rw [if_neg h]; left; rfl
set_option maxRecDepth 100000 in
theorem tail_u (rb n cap : Nat) (h1 : 1 ≤ n) (h2 : n ≤ cap) (h3 : cap ≤ 9223372036854775807) : ∃ A5, (∀ W : World, (Instr.slice 33 (.slice (some ⟨rb, 0, none⟩) n cap) (some (.int .i64 1)) none none).run Try.prog W = .ok (.slice A5 (n - 1) (cap - 1)) W) ∧ (A5 = some ⟨rb, 1, none⟩ ∨ n = 1) := by
  refine ⟨if cap = 1 then some ⟨rb, 0, none⟩ else some ⟨rb, 1, none⟩, fun W => ?_, ?_⟩
  · have hsz : (sizeOf (Try.prog.elem 33)).run Try.prog W = .ok 1 W := by rfl
    have hadd : ∀ k : Nat, (⟨rb, 0, none⟩ : Addr).add k = ⟨rb, k, none⟩ := fun k => by rw [Go.WideShapes.add_plain, Nat.zero_add]
    rw [run_slice_l (P := Try.prog) W 33 (some ⟨rb, 0, none⟩) n cap Try.underlying33 .i64 1 (by omega) (by omega), hsz]
    simp [sliced, Result.andThen, hadd]
  · by_cases h : cap = 1
    · right; omega
    · rw [if_neg h]; left; rfl
theorem src_head {W : World} {pg p cp : Nat} {s r : List QAct} {e : QAct} (h : Sl W 3 (.slice (some ⟨pg, 0, none⟩) p cp) p (flatA (s ++ e :: r))) : Src Try.prog 3 22 (.slice (some ⟨pg, 0, none⟩) s.length cp) s.length (flatA s) W :=
  Src.ofSlice W Try.underlying22 ⟨pg, 0, none⟩ _ _ _ (flatA_len s) (fun j u hu => by
    rw [Go.WideShapes.add_plain, Nat.zero_add]
    refine h.cell rfl ?_
    rw [flatA_app, List.getElem?_append_left (List.getElem?_eq_some_iff.1 hu).1]
    exact hu) flatA_one'
theorem src_tail {W : World} {pg p cp : Nat} {s r : List QAct} {e : QAct} {A5 : Option Addr} (h : Sl W 3 (.slice (some ⟨pg, 0, none⟩) p cp) p (flatA (s ++ e :: r))) (hp : s.length + r.length + 1 = p) (hA : A5 = some ⟨pg, (s.length + 1) * 3, none⟩ ∨ (A5 = some ⟨pg, 0, none⟩ ∧ p = s.length + 1)) :
    Src Try.prog 3 22 (.slice A5 (p - (s.length + 1)) (cp - (s.length + 1))) (p - (s.length + 1)) (flatA r) W := by
  rcases hA with rfl | ⟨rfl, hp1⟩
  · refine Src.ofSlice W Try.underlying22 ⟨pg, (s.length + 1) * 3, none⟩ _ _ _ (by rw [flatA_len]; omega) (fun j u hu => ?_) flatA_one'
    rw [Go.WideShapes.add_plain]
    refine h.cell rfl ?_
    rw [show s ++ e :: r = (s ++ [e]) ++ r by simp, flatA_app, List.getElem?_append_right (by rw [flatA_len]; simp), flatA_len, List.length_append, List.length_singleton, show (s.length + 1) * 3 + j - (s.length + 1) * 3 = j by omega]
    exact hu
  · have hr : r = [] := List.eq_nil_of_length_eq_zero (by omega)
    subst hr
    exact Src.ofSlice W Try.underlying22 ⟨pg, 0, none⟩ _ _ _ (by rw [flatA_len]; simp; try omega) (fun j u hu => by simp [flatA] at hu) flatA_one'

set_option maxRecDepth 100000 in
set_option maxHeartbeats 8000000 in
theorem quotaTurn_law (w : World) (room each : Int) (A : Option Addr) (xs : List QAct) (c : Nat) (hr : -9223372036854775808 ≤ room ∧ room ≤ 9223372036854775807) (he : -9223372036854775808 ≤ each ∧ each ≤ 9223372036854775807) (hU : QTab w A xs) (hc : xs.length ≤ c) (hm : c ≤ maxLen) :
    Calls Try.prog 3 #[.int .i64 room, .int .i64 each, .slice A xs.length c] w fun e w' => e = .returned (.bool true) ∧ Below w.heap.size w w' := by
  obtain ⟨i0, hi0, hz0, hz1, hz2⟩ := info_parts info_act
  have HU := Lib.hid hU
  unfold maxLen at hm
  have hlM : (xs.length : Int) ≤ 9223372036854775807 := by omega
  have HL := Lib.hid (fun W => lives44 W)
  have HN := Lib.hid (fun W => fg_new room each W)
  clear hU hc hm
  go_enter Try.func3, Try.ntmps3
  go_wp2_with (fail)
  with_reducible refine (HL.out _).mono ?_
  rintro e w1 ⟨rfl, hb⟩
  have B1 := Lib.hid hb
  clear hb
  go_wp2_with (fail)
  with_reducible refine (HN.out _).mono ?_
  rintro e w2 hcase
  rcases hcase with ⟨rn, cn, g, rfl, rfl, hr1, hr2, hc1, hc2, rfl, hfg⟩ | ⟨_, rfl, hb⟩
  case inr =>
    have B2 := Lib.hid (B1.out.trans (hb.mono B1.out.size))
    clear hb
    go_wp2_with (fail)
    go_ret
    exact ⟨rfl, B2.out⟩
  have HF := Lib.hid (hfg.back B1.out)
  have HRC := Lib.hid (And.intro hr1 (And.intro hr2 (And.intro hc1 hc2)))
  clear hfg hr1 hr2 hc1 hc2
  by_cases h100 : 100 < xs.length
  · have h1I : 100 < (xs.length : Int) := by omega
    clear h100
    go_wp2_with (fail)
    go_ret
    exact ⟨rfl, HF.out.below⟩
  have h1I : ¬ 100 < (xs.length : Int) := by omega
  have H100 := Lib.hid (show xs.length ≤ 100 by omega)
  clear h100
  go_wp2_with (fail)
  go_loopg [9, 11, 52] xs.length (fun gg v9 _ v52 wr => ∃ (k m : Nat) (put : List QAct) (cl : Cl) (Ap : Option Addr) (cp : Nat), v52 = .int .i64 (k : Int) ∧ v9 = .slice Ap m cp ∧ m ≤ cp ∧ cp ≤ maxLen ∧ Aside (gg + k = xs.length ∧ m ≤ k ∧ m ≤ rn) ∧ Aside (TI w wr g rn cn k put cl (.slice Ap m cp) m))
  case atStart => exact ⟨0, 0, [], [], none, 0, rfl, rfl, Nat.le_refl _, Nat.zero_le _, ⟨rfl, Nat.le_refl _, Nat.zero_le _⟩, ⟨HF.out.less (fun i hi => by cases hi), Sl.nil _ _, rfl, (fun i hi => by cases hi), Agree.nil⟩⟩
  case round =>
    obtain ⟨k, m, put, cl, Ap, cp, rfl, rfl, hmc, hcm, hg, hT⟩ := hrel
    by_cases hlt : k < xs.length
    · obtain ⟨b0, o, rfl, hal, hac⟩ := HU.out.2 (by omega)
      obtain ⟨y, hyk⟩ : ∃ y, xs[k]? = some y := ⟨_, List.getElem?_eq_getElem hlt⟩
      have hyo := HU.out.1 y (List.mem_of_getElem? hyk)
      have hbw : Below w.heap.size w wr := hT.out.q.below
      have a0 : wr.cell? ⟨b0, o + k * 3, none⟩ = some (.int .i64 y.k) := (hbw.cell (p := ⟨b0, o + k * 3, none⟩) hal).trans (hac k y hyk 0 _ rfl)
      have a1 : wr.cell? ⟨b0, o + k * 3 + 1, none⟩ = some (.int .u32 y.c) := (hbw.cell (p := ⟨b0, o + k * 3 + 1, none⟩) hal).trans (hac k y hyk 1 _ rfl)
      have a2 : wr.cell? ⟨b0, o + k * 3 + 2, none⟩ = some (.int .i64 y.i) := (hbw.cell (p := ⟨b0, o + k * 3 + 2, none⟩) hal).trans (hac k y hyk 2 _ rfl)
      have hltI : (k : Int) < (xs.length : Int) := by omega
      have hkL : k < 100 := by have := H100.out; omega
      have hF1 := ((hT.out.q.fresh (fun i hi => hT.out.own i hi) ((KeepK.refl _ _).alloc (fun i hi => hi.1) (.cells #[.int .i64 y.k, .int .u32 y.c, .int .i64 y.i] 30))).less (K' := fun i => (Value.slice Ap m cp).ownBlock = some i ∨ i = wr.heap.size) fun i hi => hi.imp_right fun e => by omega)
      have hS1 := hT.out.s.alloc (.cells #[.int .i64 y.k, .int .u32 y.c, .int .i64 y.i] 30)
      have hown : ∀ i, ((Value.slice Ap m cp).ownBlock = some i ∨ i = wr.heap.size) → i < (wr.alloc (.cells #[.int .i64 y.k, .int .u32 y.c, .int .i64 y.i] 30)).heap.size := fun i hi => by
        rcases hi with hi | hi
        · have := hS1.lt i hi; omega
        · simp; omega
      have hml : put.length ≤ 100 := by have := hT.out.n; have := hg.out; omega
      have hcl := hT.out.ag.len hF1.okc
      have hput := hF1.put hown y.c y.i hyo.2.1.1 hyo.2.1.2 HRC.out.2.1 HRC.out.2.2.2 (by omega) (by omega) (by rw [hT.out.ag.many]; omega) (by have := hT.out.ag.getLen y.c; omega)
      have R0 := Lib.hid (Blk.new wr 30 #[.int .i64 y.k, .int .u32 y.c, .int .i64 y.i])
      have HS1 := Lib.hid (And.intro hS1 (And.intro hown (And.intro hlt hkL)))
      have hxl : (xs.length : Int) ≤ 100 := by have := H100.out; omega
      clear hF1 hS1 hown hac hal hyk hyo hlt hbw hml hcl hkL
      rcases put_cases rn cn cl y.c y.i with ⟨hpq, hroom⟩ | ⟨z, hpq, hzne⟩
      · rw [hpq] at hput
        have HP := Lib.hid hput
        have HRM := Lib.hid hroom
        clear hput hpq hroom
        go_wp2_with (fail)
        with_reducible refine HP.out.mono ?_
        rintro e w4 ⟨rfl, hf4, hk4⟩
        have R4 := Lib.hid (R0.out.keepK hk4 ⟨by simp, .inr (.inr rfl)⟩)
        have hS4 := HS1.out.1.keepK hk4 fun i hi => ⟨HS1.out.2.1 i (.inl hi), .inr (.inl hi)⟩
        have r0 := R4.out.cell 0
        have r1 := R4.out.cell 1
        have r2 := R4.out.cell 2
        have HSL := Lib.hid (hS4.alloc (.cells #[.int .i64 y.k, .int .u32 y.c, .int .i64 y.i] 30))
        have HSR := Lib.hid (src_act w4 30 y)
        have H4 := Lib.hid (And.intro hf4 hS4)
        clear hf4 hk4 hS4
        go_wp2_with (at_builtin; go_must (refine wpList_append_sl _ rfl (.tmp 63) (.tmp 65) 22 22 rfl 30 i0 (.agg #[.int .i64 0, .int .u32 0, .int .i64 0]) 3 24 Try.underlying22 hi0 hz0 hz1 hz2 rfl (.slice Ap m cp) m (flatA put) rfl HSL.out _ rfl 1 (flatA [y]) HSR.out (by have := HS1.out.2.2.2; have := hg.out; unfold maxLen; omega) (by have := HS1.out.2.2.2; have := hg.out; omega) ?_); intro v3 w3 hs3 hg3 hv3; obtain ⟨A3, c3, rfl, hc3, hm3⟩ := hs3.shape; have H3 := Lib.hid (And.intro hs3 (And.intro hg3 (And.intro hv3 (And.intro hc3 hm3)))); clear hs3 hg3 hv3 hc3 hm3)
        obtain ⟨hs3, hg3, hv3, hc3, hm3⟩ := H3.out
        have hown3 : ∀ i, (Value.slice A3 (m + 1) c3).ownBlock = some i → (Value.slice Ap m cp).ownBlock = some i ∨ w4.heap.size ≤ i := fun i hi => by
          rcases hv3 with e | e
          · exact .inl (e.symm.trans hi)
          · rw [hi] at e
            have : i = w4.heap.size + 1 := by simpa using e
            exact .inr (by omega)
        have hk43 : KeepK (fun i => i < w4.heap.size ∧ ¬ ((Value.slice Ap m cp).ownBlock = some i ∨ i = wr.heap.size)) w4 w3 := ((KeepK.refl _ w4).alloc (fun i hi => hi.1) _).grown hg3 (fun i hi => by have := hi.1; simp; omega) fun i hi e => hi.2 (.inl e.symm)
        have hKs : ∀ i, (Value.slice Ap m cp).ownBlock = some i ∨ i = wr.heap.size → w.heap.size ≤ i := fun i hi => by
          rcases hi with hi | hi
          · exact hT.out.own i hi
          · have := hT.out.q.below.size; omega
        have hT3 : TI w w3 g rn cn (k + 1) (put ++ [y]) (addC cl y.c y.i) (.slice A3 (m + 1) c3) (m + 1) :=
          ⟨(H4.out.1.fresh hKs hk43).less fun i hi => (hown3 i hi).imp_left .inl, by rw [flatA_app]; exact hs3, by simp [hT.out.n], fun i hi => by
            rcases hown3 i hi with h | h
            · exact hT.out.own i h
            · exact Nat.le_trans H4.out.1.below.size h, hT.out.ag.put y⟩
        have HT3 := Lib.hid hT3
        clear hown3 hk43 hKs hT3 hs3 hg3 hv3
        go_roundg (xs.length - (k + 1))
        case measure => have := hg.out; have := HS1.out.2.2; omega
        case rel => exact ⟨k + 1, m + 1, _, _, A3, c3, by go_num, rfl, hc3, hm3, (by show _ ∧ _; have := hg.out; have := HS1.out.2.2; have := HRM.out; have h2 := hT.out.ag.many; have h3 := hT.out.n; omega), HT3.out⟩
      · rw [hpq] at hput
        have HP := Lib.hid hput
        clear hput hpq
        go_wp2_with (fail)
        with_reducible refine HP.out.mono ?_
        rintro e w4 ⟨rfl, hf4, hk4⟩
        have hS4 := HS1.out.1.keepK hk4 fun i hi => ⟨HS1.out.2.1 i (.inl hi), .inr (.inl hi)⟩
        have H4 := Lib.hid (And.intro hf4 hS4)
        clear hf4 hk4 hS4
        go_wp2_with (fail)
        go_roundg (xs.length - (k + 1))
        case measure => have := hg.out; have := HS1.out.2.2; omega
        case rel => exact ⟨k + 1, m, put, cl, Ap, cp, by go_num, rfl, hmc, hcm, (by show _ ∧ _; have := hg.out; have := HS1.out.2.2; omega), ⟨H4.out.1.less fun i hi => .inl hi, H4.out.2, hT.out.n, hT.out.own, hT.out.ag⟩⟩
    · have hltI : ¬ (k : Int) < (xs.length : Int) := by omega
      have hlen := hT.out.q.len
      rw [hT.out.ag.many, hT.out.n] at hlen
      have HLE := Lib.hid hlen
      have hmr : ¬ (rn : Int) < (m : Int) := by have := hg.out; omega
      have hk100 : k ≤ 100 ∧ m ≤ k := by have := hg.out; have := H100.out; omega
      have HK := Lib.hid hk100
      have HRN := Lib.hid (show ¬ rn < m by omega)
      have hmI : (m : Int) ≤ 100 := by omega
      clear hlt hlen hk100 hg
      go_wp2_with (fail)
      with_reducible refine HLE.out.mono ?_
      rintro e w4 ⟨rfl, rfl⟩
      go_wp2_with (fail)
      rw [show decide (rn < m) = false from decide_eq_false HRN.out]
      go_loopg [9, 12, 13, 14, 15, 16, 17, 18, 19, 20, 21, 81] m (fun gi v9 _ _ _ _ _ _ _ _ _ _ v81 wi => ∃ (j p : Nat) (put : List QAct) (cl : Cl) (Ap : Option Addr) (cp : Nat), v81 = .int .i64 (j : Int) ∧ v9 = .slice Ap p cp ∧ p ≤ cp ∧ cp ≤ maxLen ∧ Aside (gi + j = m ∧ j + p = m) ∧ Aside (TI w wi g rn cn (k + j) put cl (.slice Ap p cp) p))
      case atStart => exact ⟨0, m, put, cl, Ap, cp, rfl, rfl, hmc, hcm, ⟨rfl, by omega⟩, hT.out⟩
      case round =>
        clear hmc hcm
        obtain ⟨j, p, put, cl, Ap, cp, rfl, rfl, hmc, hcm, hg, hT⟩ := hrel
        by_cases hj : j < m
        · have hjI : (j : Int) < (m : Int) := by omega
          have hp0 : 0 < put.length := by have := hg.out; have := hT.out.n; omega
          obtain ⟨a, x, l, t, s, r, e, rfl, rfl, hs, hec, hei, hno, hnx, hag⟩ := hT.out.ag.take hT.out.q.okc hp0
          have hpn := hT.out.n
          obtain ⟨pg, pc, hpv, hpg, _, _, hpcell⟩ := hT.out.s.form (by omega)
          injection hpv with hpA _ hpc
          subst hpA hpc
          have hm100 : m ≤ 100 := by have := HK.out; omega
          obtain ⟨T, hTl⟩ : ∃ T, ((a, x :: l) :: t).length = T := ⟨_, rfl⟩
          have hTle : T ≤ 100 := by
            have := hT.out.ag.len hT.out.q.okc
            rw [hTl] at this
            have := hg.out; omega
          have hT1 : T = t.length + 1 := by rw [← hTl]; rfl
          have hrow := hT.out.q.row (by omega)
          rw [hTl] at hrow
          have HRO := Lib.hid hrow
          have hpsr : s.length + r.length + 1 = p := by rw [← hpn]; simp; omega
          have HA := Lib.hid (And.intro hpn (And.intro hpsr (And.intro hm100 (And.intro hTle (And.intro hT1 hj)))))
          have HH := Lib.hid (And.intro hs (And.intro hec (And.intro hei (And.intro hno (And.intro hnx (And.intro hag (And.intro hpg (And.intro hTl hpcell))))))))
          clear hrow hs hec hei hno hnx hag hpn hpg hm100 hTle hT1 hTl hj hp0 hpcell hpsr
          go_wp2_with (fail)
          with_reducible refine HRO.out.mono ?_
          rintro e5 w5 ⟨rv, rfl, hs5, ho5, hb5⟩
          obtain ⟨Ar, cr, rfl, hcr1, hcr2⟩ := hs5.shape
          have hown5 : ∀ i, (Value.slice (some ⟨pg, 0, none⟩) p cp).ownBlock = some i → i < wr.heap.size := fun i hi => hT.out.s.lt i hi
          have hF5 := (hT.out.q.fresh hT.out.own (KeepK.of_below hb5 fun i hi => hi.1)).less (K' := fun i => (Value.slice (some ⟨pg, 0, none⟩) p cp).ownBlock = some i ∨ (Value.slice Ar T cr).ownBlock = some i) fun i hi => hi.imp_right fun e => ho5 i e
          have hS5 := hT.out.s.below hb5 hown5
          have hK5 : ∀ i, (Value.slice (some ⟨pg, 0, none⟩) p cp).ownBlock = some i ∨ (Value.slice Ar T cr).ownBlock = some i → i < w5.heap.size := fun i hi => by
            rcases hi with hi | hi
            · exact hS5.lt i hi
            · exact hs5.lt i hi
          have hnext := hF5.next hK5 (by have := HK.out; have := HA.out; omega) (by rw [HH.out.2.2.2.2.2.2.2.1]; have := HA.out; omega) (by rw [hT.out.ag.many]; have := HA.out; have := hg.out; omega)
          rw [HH.out.2.2.2.2.1] at hnext
          have HNX := Lib.hid hnext
          obtain ⟨rb, rc, hrv, hrb, _, _, hrcell⟩ := hs5.form (by have := HA.out; omega)
          injection hrv with hAr _ hcr
          subst hAr hcr
          have HS5 := Lib.hid (And.intro hS5 (And.intro hs5 (And.intro hK5 (And.intro ho5 hb5))))
          clear hF5 hnext hs5 hS5 hK5 hown5 ho5 hb5
          go_wp2_with (fail)
          with_reducible refine HNX.out.mono ?_
          rintro e6 w6 ⟨rfl, hf6, hk6⟩
          have hS6 := HS5.out.1.keepK hk6 fun i hi => ⟨HS5.out.2.2.1 i (.inl hi), .inr (.inl hi)⟩
          have hs6 := HS5.out.2.1.keepK hk6 fun i hi => ⟨HS5.out.2.2.1 i (.inr hi), .inr (.inr hi)⟩
          have r0 : w6.cell? ⟨rb, 0, none⟩ = some (.int .u32 a) := hs6.cell rfl (by rfl)
          have hT0 : ¬ (T : Int) = 0 := by have := HA.out; omega
          have hT0b : ((T : Int) == 0) = false := by simp; have := HA.out; omega
          have hT0l : (0 : Int) < (T : Int) := by have := HA.out; omega
          have haa : (a == a) = true := by simp
          have H6 := Lib.hid (And.intro hf6 (And.intro hS6 hs6))
          clear hf6 hk6 hS6 hs6
          go_wp2_with (fail)
          go_loopg [16, 17, 18, 107] p (fun gq v16 _ _ v107 wq => ∃ (q : Nat) (z : Int), v107 = .int .i64 (q : Int) ∧ v16 = .int .i64 z ∧ Aside (gq + q = p ∧ (q ≤ s.length → z = -1) ∧ (s.length < q → z = (s.length : Int))) ∧ Aside (KeepK (fun i => i < w6.heap.size) w6 wq))
          case atStart => exact ⟨0, -1, rfl, rfl, ⟨rfl, fun _ => rfl, fun h => absurd h (by omega)⟩, KeepK.refl _ _⟩
          case round =>
            obtain ⟨q, z, rfl, rfl, hgq, hKq⟩ := hrel
            have hpgl : pg < w6.heap.size := H6.out.2.1.lt pg rfl
            by_cases hq : q < p
            · have hqI : (q : Int) < (p : Int) := by omega
              obtain ⟨y, hyq⟩ : ∃ y, (s ++ e :: r)[q]? = some y := ⟨_, List.getElem?_eq_getElem (by have := HA.out; omega)⟩
              have b0 : wr.cell? ⟨pg, q * 3, none⟩ = some (.int .i64 y.k) := (hKq.out.cell (p := ⟨pg, q * 3, none⟩) hpgl).trans (H6.out.2.1.cell rfl ((flatA_get hyq 0 (by decide)).trans rfl))
              have b1 : wr.cell? ⟨pg, q * 3 + 1, none⟩ = some (.int .u32 y.c) := (hKq.out.cell (p := ⟨pg, q * 3 + 1, none⟩) hpgl).trans (H6.out.2.1.cell rfl ((flatA_get hyq 1 (by decide)).trans rfl))
              have b2 : wr.cell? ⟨pg, q * 3 + 2, none⟩ = some (.int .i64 y.i) := (hKq.out.cell (p := ⟨pg, q * 3 + 2, none⟩) hpgl).trans (H6.out.2.1.cell rfl ((flatA_get hyq 2 (by decide)).trans rfl))
              have HB := Lib.hid (hKq.out.alloc (fun i hi => Nat.lt_of_lt_of_le hi hKq.out.size) (.cells #[.int .i64 y.k, .int .u32 y.c, .int .i64 y.i] 30))
              have hp100 : (p : Int) ≤ 100 := by have := HA.out; have := hg.out; omega
              rcases Nat.lt_trichotomy q s.length with hqs | hqs | hqs
              · have hz := hgq.out.2.1 (by omega)
                subst hz
                have hya : y.c ≠ a := by
                  rw [List.getElem?_append_left hqs] at hyq
                  exact HH.out.1 y (List.mem_of_getElem? hyq)
                have hyab : (y.c == a) = false := by simp [hya]
                have HQ := Lib.hid (And.intro hqs hq)
                clear hqs hq hyq hKq hpgl
                go_wp2_with (fail)
                go_roundg (p - (q + 1))
                case measure => have := hgq.out; have := HQ.out.2; omega
                case rel => exact ⟨q + 1, _, by go_num, rfl, (by show _ ∧ _ ∧ _; have := hgq.out; have := HQ.out; exact ⟨by omega, fun _ => rfl, fun h => by omega⟩), (by show KeepK _ _ _; exact HB.out)⟩
              · have hz := hgq.out.2.1 (by omega)
                subst hz
                have hye : y = e := by
                  rw [List.getElem?_append_right (by omega), hqs, Nat.sub_self] at hyq
                  simpa using hyq.symm
                have hya : (y.c == a) = true := by rw [hye, HH.out.2.1]; simp
                have HQ := Lib.hid (And.intro hqs hq)
                clear hqs hq hyq hKq hpgl hye
                go_wp2_with (fail)
                go_roundg (p - (q + 1))
                case measure => have := hgq.out; have := HQ.out.2; omega
                case rel => exact ⟨q + 1, _, by go_num, rfl, (by show _ ∧ _ ∧ _; have := hgq.out; have := HQ.out; exact ⟨by omega, fun h => by omega, fun _ => by rw [HQ.out.1]⟩), (by show KeepK _ _ _; exact HB.out)⟩
              · have hz := hgq.out.2.2 hqs
                subst hz
                have hsl : ¬ (s.length : Int) < 0 := by omega
                have HQ := Lib.hid (And.intro hqs hq)
                clear hqs hq hyq hKq hpgl
                go_wp2_with (fail)
                go_roundg (p - (q + 1))
                case measure => have := hgq.out; have := HQ.out.2; omega
                case rel => exact ⟨q + 1, _, by go_num, rfl, (by show _ ∧ _ ∧ _; have := hgq.out; have := HQ.out; exact ⟨by omega, fun h => by omega, fun _ => rfl⟩), (by show KeepK _ _ _; exact HB.out)⟩
            · have hqI : ¬ (q : Int) < (p : Int) := by omega
              have hz : z = (s.length : Int) := hgq.out.2.2 (by have := HA.out; have := hgq.out.1; omega)
              subst hz
              have hsl0 : ¬ (s.length : Int) < 0 := by omega
              have hslp : (s.length : Int) < (p : Int) := by have := HA.out; omega
              have hp100 : (p : Int) ≤ 100 := by have := HA.out; have := hg.out; omega
              have d2 : wr.cell? ⟨pg, s.length * 3 + 2, none⟩ = some (.int .i64 x) := (hKq.out.cell (p := ⟨pg, s.length * 3 + 2, none⟩) hpgl).trans (H6.out.2.1.cell rfl ((flatA_at s r e 2 (by decide)).trans (by rw [← HH.out.2.2.1]; rfl)))
              have hxx : (x == x) = true := by simp
              have hcpI : (cp : Int) ≤ 9223372036854775807 := by unfold maxLen at hcm; omega
              have hSq : Sl wr 3 (.slice (some ⟨pg, 0, none⟩) p cp) p (flatA (s ++ e :: r)) := H6.out.2.1.keepK hKq.out fun i hi => H6.out.2.1.lt i hi
              have hr1 := head_act pg p cp s.length (by have := HA.out; omega) hmc (by omega)
              obtain ⟨A5, hr2, hA5⟩ := tail_act pg p cp s.length (by have := HA.out; omega) hmc (by omega)
              have hr3 : ∀ W : World, (Instr.slice 22 (.slice (some ⟨pg, 0, none⟩) p cp) (some (.int .i64 (IntKind.i64.wrap ((s.length : Int) + 1)))) none none).run Try.prog W = .ok (.slice A5 (p - (s.length + 1)) (cp - (s.length + 1))) W := fun W => by
                rw [show IntKind.i64.wrap ((s.length : Int) + 1) = (s.length : Int) + 1 from IntWalk.i64_in _ (by omega)]
                exact hr2 W
              have HSR1 := Lib.hid (src_head ((hSq.drewN 1).alloc (.cells #[] 30)))
              have hsr2 : ∀ W', ((wr.drewN 1).alloc (.cells #[] 30)).grownBy W' (Value.slice (some ⟨wr.heap.size, 0, none⟩) 0 0).ownBlock → Src Try.prog 3 22 (.slice A5 (p - (s.length + 1)) (cp - (s.length + 1))) (p - (s.length + 1)) (flatA r) W' := fun W' hg' =>
                src_tail ((hSq.drewN 1).keepK (((KeepK.refl (fun i => i < wr.heap.size) (wr.drewN 1)).alloc (fun i hi => hi) (.cells #[] 30)).grown hg' (fun i hi => by show i < (World.alloc _ _).heap.size; simp; omega) (fun i hi e => by
                  have : i = wr.heap.size := by simpa [Value.ownBlock] using e
                  omega)) fun i hi => hSq.lt i hi) HA.out.2.1 hA5
              have HSR2 := Lib.hid hsr2
              have HQ := Lib.hid (And.intro hKq.out (And.intro hSq hpgl))
              clear hgq hq hKq hSq hsr2 hpgl hA5
              go_wp2_with (fail)
              go_region_held3 (fun _ => True) (first | assumption | trivial)
                (first
                  | (refine step_append_sl _ (by rfl) (.tmp 133) (.tmp 136) 22 22 rfl 30 i0 (.agg #[.int .i64 0, .int .u32 0, .int .i64 0]) 3 24 Try.underlying22 hi0 hz0 hz1 hz2 rfl (.slice (some ⟨wr.heap.size, 0, none⟩) 0 0) 0 (flatA []) rfl (sl_empty3 (wr.drewN 1) _) _ rfl s.length (flatA s) HSR1.out (by unfold maxLen; omega) (by omega) ?_; intro v7 w7 hs7 hg7 hv7; rw [Nat.zero_add] at hs7; obtain ⟨A7, c7, rfl, hc7, hm7⟩ := hs7.shape; have HSR3 := Lib.hid (HSR2.out w7 hg7); have H7 := Lib.hid (And.intro hs7 (And.intro hg7 hv7)); clear hs7 hg7 hv7)
                  | (refine step_append_sl _ (by rfl) (.tmp 137) (.tmp 141) 22 22 rfl 30 i0 (.agg #[.int .i64 0, .int .u32 0, .int .i64 0]) 3 24 Try.underlying22 hi0 hz0 hz1 hz2 rfl (.slice A7 s.length c7) s.length (flatA [] ++ flatA s) rfl H7.out.1 _ rfl (p - (s.length + 1)) (flatA r) HSR3.out (by unfold maxLen; omega) (by omega) ?_; intro v8 w8 hs8 hg8 hv8; obtain ⟨A8, c8, rfl, hc8, hm8⟩ := hs8.shape; have H8 := Lib.hid (And.intro hs8 (And.intro hg8 (And.intro hv8 (And.intro hc8 hm8)))); clear hs8 hg8 hv8 hc8 hm8))
              have hk78 : KeepK (fun i => i < wr.heap.size) wr w8 := by
                have h1 := ((KeepK.refl (fun i => i < wr.heap.size) wr).drewN 1).alloc (fun i hi => hi) (.cells #[] 30)
                have h2 := h1.grown H7.out.2.1 (fun i hi => by show i < (World.alloc _ _).heap.size; simp; omega) (fun i hi e => by
                  have : i = wr.heap.size := by simpa [Value.ownBlock] using e
                  omega)
                refine h2.grown H8.out.2.1 (fun i hi => Nat.lt_of_lt_of_le hi h2.size) (fun i hi e => ?_)
                rcases H7.out.2.2 with e7 | e7
                · rw [e7] at e
                  have : i = wr.heap.size := by simpa [Value.ownBlock] using e
                  omega
                · rw [e7] at e
                  have : i = wr.heap.size + 1 := by simpa using e
                  omega
              have hown8 : ∀ i, (Value.slice A8 (s.length + (p - (s.length + 1))) c8).ownBlock = some i → wr.heap.size ≤ i :=
                own_from (own_from (v := .slice (some ⟨wr.heap.size, 0, none⟩) 0 0) (fun i hi => by
                  have : wr.heap.size = i := by simpa [Value.ownBlock] using hi
                  omega) (by simp) H7.out.2.2) (by
                  have h2 : (wr.alloc (.cells #[] 30)).heap.size ≤ w7.heap.size := H7.out.2.1.size
                  simp at h2
                  omega) H8.out.2.2.1
              have h68 : KeepK (fun i => i < w6.heap.size) w6 w8 := HQ.out.1.trans (hk78.mono fun i hi => Nat.lt_of_lt_of_le hi HQ.out.1.size)
              have hK6 : ∀ i, (Value.slice (some ⟨pg, 0, none⟩) p cp).ownBlock = some i ∨ (Value.slice (some ⟨rb, 0, none⟩) T cr).ownBlock = some i → w.heap.size ≤ i := fun i hi => by
                rcases hi with hi | hi
                · exact hT.out.own i hi
                · exact Nat.le_trans hT.out.q.below.size (HS5.out.2.2.2.1 i hi)
              have hF8 := (H6.out.1.fresh hK6 (h68.mono fun i hi => hi.1)).less (K' := fun i => (Value.slice A8 (s.length + (p - (s.length + 1))) c8).ownBlock = some i) fun i hi => .inr (Nat.le_trans HQ.out.1.size (hown8 i hi))
              have hs8 := H8.out.1
              rw [show flatA [] ++ flatA s ++ flatA r = flatA (s ++ r) by rw [flatA_app]; simp [flatA]] at hs8
              have hag' := HH.out.2.2.2.2.2.1
              rw [HH.out.2.2.2.2.1] at hag'
              have hlen8 : (if l = [] then t else t ++ [(a, l)]).length ≤ 100 := by
                have h1 : (if l = [] then t else t ++ [(a, l)]).length ≤ (s ++ r).length := hag'.len hF8.okc
                have := HA.out; have := hg.out
                rw [List.length_append] at h1; omega
              have hT8 : TI w w8 g rn cn (k + j + 1) (s ++ r) (if l = [] then t else t ++ [(a, l)]) (.slice A8 (s.length + (p - (s.length + 1))) c8) (s.length + (p - (s.length + 1))) :=
                ⟨hF8, hs8, by rw [List.length_append]; have := HA.out.2.1; omega, fun i hi => Nat.le_trans (Nat.le_trans (Nat.le_trans H6.out.1.below.size HQ.out.1.size) (Nat.le_refl _)) (hown8 i hi), hag'⟩
              obtain ⟨N, hN⟩ : ∃ N, (if l = [] then t else t ++ [(a, l)]).length = N := ⟨_, rfl⟩
              have hN2 : t.length ≤ N := by
                rw [← hN]
                by_cases hl : l = []
                · rw [if_pos hl]; exact Nat.le_refl _
                · rw [if_neg hl]; simp
              have hrow8 := hF8.row (by omega)
              rw [hN] at hrow8
              have HRO8 := Lib.hid hrow8
              have hs68 := H6.out.2.2.keepK h68 fun i hi => H6.out.2.2.lt i hi
              obtain ⟨q8, hq8⟩ : ∃ q8, s.length + (p - (s.length + 1)) = q8 := ⟨_, rfl⟩
              have hq8p : q8 + 1 = p := by have := HA.out.2.1; omega
              have HT8 := Lib.hid (And.intro hT8 (And.intro hs68 (And.intro hq8p (And.intro hN2 (hN ▸ hlen8)))))
              clear hk78 hown8 h68 hK6 hF8 hs8 hag' hlen8 hT8 hrow8 hs68 hN2 hr1 hr2 hr3 d2 r0 hq8p
              go_wp2_with (fail)
              with_reducible refine HRO8.out.mono ?_
              rintro e9 w9 ⟨rv9, rfl, hs9, ho9, hb9⟩
              obtain ⟨An, cn9, rfl, hcn1, hcn2⟩ := hs9.shape
              obtain ⟨A9, hr9, hA9⟩ := tail_u rb T cr (by have := HA.out; omega) hcr1 (by unfold maxLen at hcr2; omega)
              obtain ⟨M, hM⟩ : ∃ M, T - 1 = M := ⟨_, rfl⟩
              rw [hM] at hr9
              have HT9 := Lib.hid (And.intro (HT8.out.1.below hb9) (And.intro (HT8.out.2.1.below hb9 HT8.out.2.1.lt) (And.intro hs9 (And.intro hM hA9))))
              have hMI : (M : Int) ≤ 100 := by have := HA.out; omega
              have hNI : (N : Int) ≤ 100 := by have := HT8.out.2.2.2.2; omega
              clear hs9 ho9 hb9 hM hA9
              go_wp2_with (fail)
              go_loopg [20, 21, 148] M (fun gi _ _ v148 wx => ∃ i : Nat, v148 = .int .i64 (i : Int) ∧ Aside (gi + i = M) ∧ w9 = wx)
              case atStart => exact ⟨0, rfl, rfl, rfl⟩
              case round =>
                obtain ⟨i, rfl, hgi, rfl⟩ := hrel
                by_cases hi : i < M
                · have hiI : (i : Int) < (M : Int) := by omega
                  have hMt : M = t.length := by have := HT9.out.2.2.2.1; have := HA.out; omega
                  have hiN : ¬ (N : Int) ≤ (i : Int) := by have := HT8.out.2.2.2.1; omega
                  have hiN2 : (i : Int) < (N : Int) := by omega
                  obtain ⟨z, hz⟩ : ∃ z, t[i]? = some z := ⟨_, List.getElem?_eq_getElem (by omega)⟩
                  have hA9 : A9 = some ⟨rb, 1, none⟩ := HT9.out.2.2.2.2.resolve_right (by have := HA.out; omega)
                  subst hA9
                  have f1 : w9.cell? ⟨rb, 1 + i, none⟩ = some (.int .u32 z.1) := HT9.out.2.1.cell rfl (by
                    rw [Nat.add_comm 1 i, List.map_cons, List.getElem?_cons_succ, List.getElem?_map, hz]; rfl)
                  obtain ⟨nb, nc, hnv, _, _, _, hncell⟩ := HT9.out.2.2.1.form (by omega)
                  injection hnv with hnA _ hnc
                  subst hnA hnc
                  have f2 : w9.cell? ⟨nb, i, none⟩ = some (.int .u32 z.1) := hncell i _ (by
                    obtain ⟨zz, hzz⟩ := next_keys a l t
                    rw [hzz, List.getElem?_append_left (by rw [List.length_map]; omega), List.getElem?_map, hz]; rfl)
                  have hzz : (z.1 == z.1) = true := by simp
                  have HI := Lib.hid hi
                  clear hi hMt hz hncell
                  go_wp2_with (fail)
                  go_roundg (M - (i + 1))
                  case measure => have := hgi.out; have := HI.out; omega
                  case rel => exact ⟨i + 1, by go_num, (by show _ = _; have := hgi.out; have := HI.out; omega), rfl⟩
                · have hiI : ¬ (i : Int) < (M : Int) := by omega
                  clear hi
                  go_wp2_with (fail)
                  go_roundg (m - (j + 1))
                  case measure => have := hg.out; have := HA.out.2.2.2.2.2; omega
                  case rel => exact ⟨j + 1, q8, s ++ r, _, A8, c8, by go_num, rfl, hq8 ▸ H8.out.2.2.2.1, H8.out.2.2.2.2, (by show _ ∧ _; have := hg.out; have := HA.out.2.2.2.2.2; have := HA.out.2.1; omega), hq8 ▸ HT9.out.1⟩
        · have hjI : ¬ (j : Int) < (m : Int) := by omega
          have hp0 : p = 0 := by have := hg.out; omega
          subst hp0
          have hlc := hT.out.ag.len hT.out.q.okc
          rw [hT.out.n] at hlc
          have hcl0 : cl = [] := List.eq_nil_of_length_eq_zero (by omega)
          subst hcl0
          have hnext := hT.out.q.next (fun i hi => hT.out.s.lt i hi) (by have := HK.out; have := hg.out; omega) (by decide) (by decide)
          rw [show nextQ [] = (([] : Cl), (0 : Int), (0 : Int), false) from rfl] at hnext
          have HNX := Lib.hid hnext
          clear hnext hlc hj
          go_wp2_with (fail)
          with_reducible refine HNX.out.mono ?_
          rintro e6 w6 ⟨rfl, hf6, _⟩
          have HF6 := Lib.hid hf6
          have HLE6 := Lib.hid hf6.len
          clear hf6
          go_wp2_with (fail)
          with_reducible refine HLE6.out.mono ?_
          rintro e wl ⟨rfl, rfl⟩
          go_wp2_with (fail)
          go_ret
          exact ⟨rfl, HF6.out.below⟩
end Go.Proofs.Ytkdfbmbccopchaa
