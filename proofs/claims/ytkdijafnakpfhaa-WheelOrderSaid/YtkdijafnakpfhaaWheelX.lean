/- The document's Next and Pop of layer 35. Conditions: none. -/
import Derived.Test.YtkdijafnakpfhaaWheelF
namespace Go.Proofs.Ytkdijafnakpfhaa
open Go.RowKit Go.Lib

set_option maxRecDepth 100000 in
set_option maxHeartbeats 1000000 in
theorem rNext35_any {w : World} {A : Option Addr} {c : Nat} {v : List Th} (h : TS w A c v) (hl : v.length ≤ 1000) :
    Calls Try.prog 15 #[.slice A v.length c] w (fun e w' => e = .returned (.tuple #[.int .i64 ((minV v).elim 0 Th.t), .bool (minV v).isSome]) ∧ Below w.heap.size w w') := by
  have HT := Lib.hid (And.intro h hl)
  clear h hl
  by_cases h0 : v.length = 0
  · have hv : minV v = none := minV_none.2 (List.eq_nil_of_length_eq_zero h0)
    rw [hv, h0]
    dsimp only [Option.elim, Option.isSome]
    clear hv
    go_enter Try.func15, Try.ntmps15
    go_wp2_with (fail)
    go_ret2
    exact ⟨rfl, Below.refl _ _⟩
  · obtain ⟨q, rfl, hq, _, _⟩ := HT.out.1.at_ (k := 0) (by omega)
    have HF := Lib.hid (first_any HT.out.1 HT.out.2 (by omega))
    have HD : RowKit.Hid (∀ a, a < v.length → w.cell? ⟨q, a * 2 + 1, none⟩ = some (.int .i64 (ath v a).t)) := Lib.hid (fun a ha => by
      obtain ⟨q', hq', _, _, d1⟩ := HT.out.1.at_ ha
      injection hq' with hq'
      injection hq' with hq'
      subst hq'
      exact d1)
    have q1 : ((v.length : Int) == 0) = false := by rw [beq_eq_false_iff_ne]; omega
    clear h0
    go_enter Try.func15, Try.ntmps15
    go_wp2_with (fail)
    go_wp2_with (go_at_call 22; go_loud (refine HF.out.mono ?_; rintro e w1 ⟨a, rfl, ha, hm, hb⟩; have d1 := (hb.cell (p := ⟨q, a * 2 + 1, none⟩) hq).trans (HD.out a ha); have haI : (a : Int) < (v.length : Int) := Int.ofNat_lt.2 ha; have ha0 : (0 : Int) ≤ (a : Int) := Int.natCast_nonneg a; have HB := Lib.hid (And.intro hm hb); clear hm hb ha))
    go_ret2
    rw [HB.out.1]
    exact ⟨rfl, HB.out.2⟩

/-- What the document's Pop leaves. -/
def RPopP (w : World) (o : Option Nat) (P : List Th × List Th) (e : Ending) (w' : World) : Prop :=
  ∃ A1 c1 A2 c2, e = .returned (.tuple #[.slice A1 P.2.length c1, .slice A2 P.1.length c2]) ∧ TS w' A1 c1 P.2 ∧ (∀ p, (Value.slice A1 P.2.length c1).ownBlock = some p → o = some p ∨ w.heap.size ≤ p) ∧ Sl w' 1 (.slice A2 P.1.length c2) P.1.length (P.1.map idV) ∧ (∀ q, (Value.slice A2 P.1.length c2).ownBlock = some q → w.heap.size ≤ q) ∧ (∀ p q, (Value.slice A1 P.2.length c1).ownBlock = some p → (Value.slice A2 P.1.length c2).ownBlock = some q → p ≠ q) ∧ Below w.heap.size w w'
structure RPI (o : Option Nat) (w wr : World) (now : Int) (v dn v' : List Th) (A1 : Option Addr) (c1 : Nat) (A2 : Option Addr) (n c2 : Nat) : Prop where
  hn : n = dn.length
  hl : dn.length + v'.length = v.length
  h1 : dn ++ (popV v'.length v' now).1 = (popV v.length v now).1
  h2 : (popV v'.length v' now).2 = (popV v.length v now).2
  nd : (v'.map Th.id).Nodup
  ts : TS wr A1 c1 v'
  sl : Sl wr 1 (.slice A2 n c2) n (dn.map idV)
  ow : ∀ q, (Value.slice A2 n c2).ownBlock = some q → w.heap.size ≤ q
  dj : ∀ p q, (Value.slice A1 v'.length c1).ownBlock = some p → (Value.slice A2 n c2).ownBlock = some q → p ≠ q
  ol : ∀ p, (Value.slice A1 v'.length c1).ownBlock = some p → o = some p ∨ w.heap.size ≤ p
  bl : Below w.heap.size w wr
theorem RPI.fin {o : Option Nat} {w wr : World} {now : Int} {v dn v' : List Th} {A1 : Option Addr} {c1 : Nat} {A2 : Option Addr} {n c2 : Nat} (h : RPI o w wr now v dn v' A1 c1 A2 n c2) (hp : popV v'.length v' now = ([], v')) :
    RPopP w o (popV v.length v now) (.returned (.tuple #[.slice A1 v'.length c1, .slice A2 n c2])) wr := by
  have h1 := h.h1
  have h2 := h.h2
  rw [hp] at h1 h2
  simp only [List.append_nil] at h1
  have hn := h.hn
  refine ⟨A1, c1, A2, c2, ?_, h2 ▸ h.ts, h2 ▸ h.ol, ?_, ?_, ?_, h.bl⟩
  · rw [← h1, ← h2, hn]
  · rw [← h1, ← hn]; exact h.sl
  · rw [← h1, ← hn]; exact h.ow
  · rw [← h1, ← h2, ← hn]; exact h.dj
theorem RPI.keep {o' : Option Nat} {w wr w1 w9 : World} {now : Int} {v dn v' : List Th} {A1 : Option Addr} {c1 : Nat} {A2 : Option Addr} {n c2 : Nat} (h : RPI o' w wr now v dn v' A1 c1 A2 n c2) (hb : Below wr.heap.size wr w1) {o : Obj} (hg : (w1.alloc o).grownBy w9 (Value.slice A2 n c2).ownBlock) :
    TS w9 A1 c1 v' ∧ Below w.heap.size w w9 := by
  have z1 := hb.size
  have z0 := h.bl.size
  refine ⟨Sl.keep h.ts (by have := hg.size; simp at this; omega) fun p hp => ?_, ((h.bl.trans (hb.mono z0)).alloc (by omega) _).grown hg (by simp; omega) h.ow⟩
  have hp1 := h.ts.lt p hp
  rw [hg.block p (by simp; omega) (fun e => h.dj p p hp e.symm rfl), Below.heap_alloc w1 o p (by omega), hb.block p hp1]
theorem drop_nodup {v : List Th} (h : (v.map Th.id).Nodup) (id : Int) : ((dropV v id).map Th.id).Nodup := by
  unfold dropV
  exact h.sublist (List.Sublist.map _ List.filter_sublist)
theorem RPI.step {o' : Option Nat} {w wr w1 w9 w8 : World} {now : Int} {v dn v' : List Th} {A1 : Option Addr} {c1 : Nat} {A2 : Option Addr} {n c2 : Nat} (h : RPI o' w wr now v dn v' A1 c1 A2 n c2) {x : Th} (hx : minV v' = some x) (ht : x.t ≤ now)
    (hb : Below wr.heap.size wr w1) {o : Obj} {A3 : Option Addr} {c3 : Nat}
    (hs3 : Sl w9 1 (.slice A3 (n + 1) c3) (n + 1) (dn.map idV ++ [.int .i64 x.id])) (hg3 : (w1.alloc o).grownBy w9 (Value.slice A2 n c2).ownBlock)
    (hv3 : (Value.slice A3 (n + 1) c3).ownBlock = (Value.slice A2 n c2).ownBlock ∨ (Value.slice A3 (n + 1) c3).ownBlock = some (w1.alloc o).heap.size)
    {A4 : Option Addr} {c4 : Nat} (h4 : TS w8 A4 c4 (dropV v' x.id)) (o4 : ∀ g, (Value.slice A4 (dropV v' x.id).length c4).ownBlock = some g → w9.heap.size ≤ g) (b4 : Below w9.heap.size w9 w8) :
    RPI o' w w8 now v (dn ++ [x]) (dropV v' x.id) A4 c4 A3 (n + 1) c3 := by
  have hd := popV_due hx h.nd ht
  have hl := drop_len h.nd (minV_mem hx).1
  have h1 := h.h1
  have h2 := h.h2
  rw [hd] at h1 h2
  have hk := (h.keep hb hg3).2
  refine ⟨by rw [List.length_append, h.hn]; rfl, by rw [List.length_append]; have := h.hl; simp only [List.length_singleton]; omega, by rw [List.append_assoc]; exact h1, h2, drop_nodup h.nd _, h4, ?_, own_from h.ow (by have := h.bl.size; have := hb.size; simp; omega) hv3, fun p q hp hq e => ?_, fun p hp => .inr (Nat.le_trans hk.size (o4 p hp)), hk.trans (b4.mono hk.size)⟩
  · rw [List.map_append]; exact hs3.below b4 hs3.lt
  · have a := o4 p hp
    have b := hs3.lt q hq
    omega

set_option maxRecDepth 100000 in
set_option maxHeartbeats 2000000 in
theorem rPop35_any {w : World} {A : Option Addr} {c : Nat} {v : List Th} (h : TS w A c v) (hl : v.length ≤ 1000) (hnd : (v.map Th.id).Nodup) (now : Int) :
    Calls Try.prog 11 #[.slice A v.length c, .int .i64 now] w (RPopP w (Value.slice A v.length c).ownBlock (popV v.length v now)) := by
  obtain ⟨j0, hj0, hy0, hy1, hy2⟩ := info_parts info_i35
  have HT := Lib.hid (And.intro h (And.intro hl hnd))
  clear h hl hnd
  go_enter Try.func11, Try.ntmps11
  go_wp2_with (fail)
  go_loopg [0, 6] (v.length + 1) (fun gg v0 v6 wr => ∃ (v' : List Th) (c1 : Nat) (A1 : Option Addr) (n c2 : Nat) (A2 : Option Addr), v0 = .slice A1 v'.length c1 ∧ v6 = .slice A2 n c2 ∧ Aside (gg = v'.length + 1) ∧ Aside (∃ dn, RPI (Value.slice A v.length c).ownBlock w wr now v dn v' A1 c1 A2 n c2))
  case atStart => exact ⟨v, c, A, 0, 0, none, rfl, rfl, rfl, [], rfl, by simp, rfl, rfl, HT.out.2.2, HT.out.1, Sl.nil _ _, fun q hq => by simp [Value.ownBlock] at hq, fun p q _ hq => by simp [Value.ownBlock] at hq, fun p hp => .inl hp, Below.refl _ _⟩
  case round =>
    obtain ⟨v', c1, A1, n, c2, A2, rfl, rfl, hg, hI⟩ := hrel
    obtain ⟨dn, hP⟩ := hI.out
    clear hI
    have HI := Lib.hid (And.intro hP hg.out)
    clear hP
    by_cases hp : v'.length = 0
    · have HV := Lib.hid (List.eq_nil_of_length_eq_zero hp)
      have hpI : ¬ (0 : Int) < (v'.length : Int) := by omega
      go_wp2_with (fail)
      go_ret2
      have r := HI.out.1.fin (by rw [HV.out]; rfl)
      rw [hp] at r
      exact r
    · have hl' : v'.length ≤ 1000 := by have := HI.out.1.hl; have := HT.out.2.1; omega
      obtain ⟨q, rfl, hq, _, _⟩ := HI.out.1.ts.at_ (k := 0) (by omega)
      have HF := Lib.hid (first_any HI.out.1.ts hl' (by omega))
      obtain ⟨x, hx⟩ : ∃ x, minV v' = some x := by
        cases hm : minV v' with
        | none => exact absurd (by rw [minV_none.1 hm]; rfl) hp
        | some x => exact ⟨x, rfl⟩
      have HX := Lib.hid hx
      have HD : RowKit.Hid (∀ W, TS W (some ⟨q, 0, none⟩) c1 v' → ∀ a, a < v'.length → minV v' = some (ath v' a) → W.cell? ⟨q, a * 2, none⟩ = some (.int .i64 x.id) ∧ W.cell? ⟨q, a * 2 + 1, none⟩ = some (.int .i64 x.t)) := Lib.hid (fun W hW a ha hm => by
        have e : ath v' a = x := Option.some.inj (hm.symm.trans hx)
        obtain ⟨q', hq', _, d0, d1⟩ := hW.at_ ha
        injection hq' with hq'
        injection hq' with hq'
        subst hq'
        rw [e] at d0 d1
        exact ⟨d0, d1⟩)
      have HR := Lib.hid (fun W (hW : TS W (some ⟨q, 0, none⟩) c1 v') => rDrop35_any hW hl' x.id)
      have hpI : (0 : Int) < (v'.length : Int) := by omega
      have hn1 : n + 1 ≤ 1001 := by
        have := HI.out.1.hn
        have := HI.out.1.hl
        have := HT.out.2.1
        omega
      clear hp hx hl'
      by_cases ht : now < x.t
      · have HTT := Lib.hid ht
        go_wp2_with (go_at_call 22; refine HF.out.mono ?_; rintro e w1 ⟨a, rfl, ha, hm, hb⟩; have d1 := (HD.out _ (HI.out.1.ts.below hb) a ha hm).2; have haI : (a : Int) < (v'.length : Int) := Int.ofNat_lt.2 ha; have ha0 : (0 : Int) ≤ (a : Int) := Int.natCast_nonneg a; have HB := Lib.hid hb; clear hm hb ha)
        go_ret2
        have r := HI.out.1.fin (popV_late HX.out (by have := HTT.out; omega))
        obtain ⟨B1, k1, B2, k2, r1, r2, r5, r3, r6, r7, r4⟩ := r
        exact ⟨B1, k1, B2, k2, r1, r2.below HB.out, r5, r3.below HB.out r3.lt, r6, r7, r4.trans (HB.out.mono r4.size)⟩
      · have HTT := Lib.hid (show x.t ≤ now by omega)
        go_wp2_with (first
          | (go_at_call 22; refine HF.out.mono ?_; rintro e w1 ⟨a, rfl, ha, hm, hb⟩; have d0 := (HD.out _ (HI.out.1.ts.below hb) a ha hm).1; have d1 := (HD.out _ (HI.out.1.ts.below hb) a ha hm).2; have haI : (a : Int) < (v'.length : Int) := Int.ofNat_lt.2 ha; have ha0 : (0 : Int) ≤ (a : Int) := Int.natCast_nonneg a; have HSL := Lib.hid ((HI.out.1.sl.below hb HI.out.1.sl.lt).alloc (.cells #[.int .i64 x.id] 3)); have HSR := Lib.hid (src_new (P := Try.prog) Try.underlying34 w1 3 (.int .i64 x.id) rfl); have HB := Lib.hid (And.intro hb (And.intro ha hm)); clear hm hb ha)
          | (go_at_call 9; refine (HR.out _ H3.out.2.2.2).mono ?_; rintro e w8 ⟨A4, c4, rfl, k1, k2, k3⟩; have H8 := Lib.hid (And.intro k1 (And.intro k2 k3)); clear k1 k2 k3)
          | (at_builtin; go_must (refine wpList_append_sl _ rfl (.tmp 20) (.tmp 26) 34 34 rfl 3 j0 (.int .i64 0) 1 8 Try.underlying34 hj0 hy0 hy1 hy2 rfl (.slice A2 n c2) n (dn.map idV) rfl HSL.out _ rfl 1 [.int .i64 x.id] HSR.out (by unfold maxLen; omega) (by omega) ?_); intro v3 w9 hs3 hg3 hv3; obtain ⟨A3, c3, rfl, hc3, hm3⟩ := hs3.shape; have ht9 := (HI.out.1.keep HB.out.1 hg3).1; have f0 := (HD.out _ ht9 _ HB.out.2.1 HB.out.2.2).1; have H3 := Lib.hid (And.intro hs3 (And.intro hg3 (And.intro hv3 ht9))); clear hs3 hg3 hv3 hc3 hm3 ht9))
        go_roundg ((dropV v' x.id).length + 1)
        case measure =>
          have := HI.out.2
          have := drop_len HI.out.1.nd (minV_mem HX.out).1
          omega
        case rel => exact ⟨dropV v' x.id, c4, A4, n + 1, c3, A3, rfl, rfl, rfl, dn ++ [x], HI.out.1.step HX.out HTT.out HB.out.1 H3.out.1 H3.out.2.1 H3.out.2.2.1 H8.out.1 H8.out.2.1 H8.out.2.2⟩
end Go.Proofs.Ytkdijafnakpfhaa
