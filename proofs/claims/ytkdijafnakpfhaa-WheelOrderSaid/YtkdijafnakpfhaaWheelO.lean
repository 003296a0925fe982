/- The wheel's Pop. Conditions: none. -/
import Derived.Test.YtkdijafnakpfhaaWheelN
import Derived.Test.YtkdijafnakpfhaaRef01E
namespace Go.Proofs.Ytkdijafnakpfhaa
open Go.RowKit Go.Lib

theorem info_i35 : (Try.prog.info? 3).map (fun i => (i.zero, i.size, i.bytes)) = some (some (.int .i64 0), 1, 8) := by kernel_rfl
def idV (x : Th) : Value := .int .i64 x.id
theorem popV_nil (now : Int) : popV ([] : List Th).length [] now = ([], []) := rfl
theorem popV_late {v : List Th} {x : Th} {now : Int} (h : minV v = some x) (ht : ¬ x.t ≤ now) : popV v.length v now = ([], v) := by
  cases v with
  | nil => cases h
  | cons y l =>
    show popV (l.length + 1) (y :: l) now = _
    unfold popV
    rw [h]
    simp only
    rw [if_neg ht]
theorem popV_due {v : List Th} {x : Th} {now : Int} (h : minV v = some x) (hn : (v.map Th.id).Nodup) (ht : x.t ≤ now) :
    popV v.length v now = (x :: (popV (dropV v x.id).length (dropV v x.id) now).1, (popV (dropV v x.id).length (dropV v x.id) now).2) := by
  have hl := drop_len hn (minV_mem h).1
  rw [← hl]
  show popV ((dropV v x.id).length + 1) v now = _
  conv => lhs; unfold popV
  rw [h]
  simp only
  rw [if_pos ht]
/-- What Pop leaves. -/
def PopP (w : World) (g mb : Nat) (A : Option Addr) (N : Nat) (P : List Th × List Th) (e : Ending) (w' : World) : Prop :=
  ∃ A2 c2, e = .returned (.slice A2 P.1.length c2) ∧ Sl w' 1 (.slice A2 P.1.length c2) P.1.length (P.1.map idV) ∧ (∀ q, (Value.slice A2 P.1.length c2).ownBlock = some q → w.heap.size ≤ q) ∧ WV w' g mb A N P.2 ∧ KeepH g mb A w w'
structure PopI (w wr : World) (g mb : Nat) (A : Option Addr) (N : Nat) (now : Int) (v dn v' : List Th) (A2 : Option Addr) (n c : Nat) : Prop where
  hn : n = dn.length
  hl : dn.length + v'.length = v.length
  h1 : dn ++ (popV v'.length v' now).1 = (popV v.length v now).1
  h2 : (popV v'.length v' now).2 = (popV v.length v now).2
  wv : WV wr g mb A N v'
  sl : Sl wr 1 (.slice A2 n c) n (dn.map idV)
  ow : ∀ q, (Value.slice A2 n c).ownBlock = some q → w.heap.size ≤ q
  kp : KeepH g mb A w wr
theorem PopI.fin {w wr : World} {g mb : Nat} {A : Option Addr} {N : Nat} {now : Int} {v dn v' : List Th} {A2 : Option Addr} {n c : Nat} (h : PopI w wr g mb A N now v dn v' A2 n c) (hp : popV v'.length v' now = ([], v')) :
    PopP w g mb A N (popV v.length v now) (.returned (.slice A2 n c)) wr := by
  have h1 := h.h1
  have h2 := h.h2
  rw [hp] at h1 h2
  simp only [List.append_nil] at h1
  have hn := h.hn
  refine ⟨A2, c, ?_, ?_, ?_, h2 ▸ h.wv, h.kp⟩
  · rw [← h1, hn]
  · rw [← h1, ← hn]; exact h.sl
  · rw [← h1, ← hn]; exact h.ow
theorem PopI.step {w wr w2 w9 : World} {g mb : Nat} {A : Option Addr} {N : Nat} {now : Int} {v dn v' : List Th} {A2 : Option Addr} {n c : Nat} (h : PopI w wr g mb A N now v dn v' A2 n c) {x : Th} (hx : minV v' = some x) (ht : x.t ≤ now)
    (hw2 : WV w2 g mb A N (dropV v' x.id)) (hk2 : KeepH g mb A wr w2) {o : Obj} {A3 : Option Addr} {c3 : Nat} (hb : w.heap.size ≤ wr.heap.size) (hgl : WV w g mb A N v)
    (hs3 : Sl w9 1 (.slice A3 (n + 1) c3) (n + 1) (dn.map idV ++ [.int .i64 x.id])) (hg3 : (w2.alloc o).grownBy w9 (Value.slice A2 n c).ownBlock)
    (hv3 : (Value.slice A3 (n + 1) c3).ownBlock = (Value.slice A2 n c).ownBlock ∨ (Value.slice A3 (n + 1) c3).ownBlock = some (w2.alloc o).heap.size) :
    PopI w w9 g mb A N now v (dn ++ [x]) (dropV v' x.id) A3 (n + 1) c3 := by
  have hd := popV_due hx h.wv.nodup ht
  have hl := drop_len h.wv.nodup (minV_mem hx).1
  have z2 := hk2.size
  have h1 := h.h1
  have h2 := h.h2
  rw [hd] at h1 h2
  have hb9 : KeepH g mb A w w9 := by
    refine KeepK.trans h.kp (KeepK.mono hk2 fun b hb' => ⟨Nat.lt_of_lt_of_le hb'.1 hb, hb'.2⟩) |>.trans ?_
    have k1 : KeepK (fun b => b < w.heap.size) w2 (w2.alloc o) := (KeepK.refl _ _).alloc (fun i hi => by have := hi; omega) _
    have k2 := k1.grown hg3 (fun i hi => by have := hi; simp; omega) (fun i hi e => by have := h.ow i e.symm; omega)
    exact KeepK.mono k2 fun b hb' => hb'.1
  have hk9 : Below w.heap.size w2 w9 := (((Below.refl w.heap.size w2).alloc (by omega) _)).grown hg3 (by simp; omega) (fun q hq => h.ow q hq)
  have L := hgl.lt
  obtain ⟨c1, xs, f, x1, x2, x3, x4⟩ := hw2
  obtain ⟨F, m1, m2⟩ := x1.mp
  refine ⟨by rw [List.length_append, h.hn]; rfl, by rw [List.length_append]; have := h.hl; simp only [List.length_singleton]; omega, by rw [List.append_assoc]; exact h1, h2, ?_, by rw [List.map_append]; exact hs3, own_from h.ow (by simp; omega) hv3, hb9⟩
  refine ⟨c1, xs, f, ⟨x1.bx.below hk9 L.1, x1.it.below hk9 fun q hq => ?_, ⟨F, m1.below hk9 L.2.1, m2⟩, x1.ne, x1.pl, x1.ok, x1.nb⟩, x2, x3, x4⟩
  rw [own_map] at hq
  cases A with
  | none => cases hq
  | some p =>
    injection hq with hq
    subst hq
    exact (L.2.2 p rfl).1

set_option maxRecDepth 100000 in
set_option maxHeartbeats 16000000 in
theorem pop_any35 {w : World} {g mb N : Nat} {A : Option Addr} {v : List Th} (h : WV w g mb A N v) (now : Int) :
    Calls Try.prog 13 #[.pointer (some ⟨g, 0, none⟩), .int .i64 now] w (PopP w g mb A N (popV v.length v now)) := by
  obtain ⟨j0, hj0, hy0, hy1, hy2⟩ := info_parts info_i35
  have H := Lib.hid h
  obtain ⟨c0, xs0, f0, h1, _⟩ := h
  have HM := Lib.hid (made_any35 h1.bx)
  clear h1
  have hfd : ∀ (W : World) (a b : Value), (Instr.field 50 (.agg #[a, b]) 0).run Try.prog W = .ok a W := fun W a b => by rfl
  go_enter Try.func13, Try.ntmps13
  go_wp2_with (go_at_call 19; refine HM.out.mono ?_; rintro e w1 ⟨rfl, hb⟩; have HB := Lib.hid hb; clear hb)
  go_loopg [5] (v.length + 1) (fun gg v5 wr => ∃ (n c : Nat) (A2 : Option Addr), v5 = .slice A2 n c ∧ Aside (∃ dn v', gg = v'.length + 1 ∧ PopI w wr g mb A N now v dn v' A2 n c))
  case atStart => exact ⟨0, 0, none, rfl, [], v, rfl, rfl, by simp, rfl, rfl, H.out.below HB.out, Sl.nil _ _, fun q hq => by simp [Value.ownBlock] at hq, KeepK.of_below HB.out fun _ hb => hb.1⟩
  case round =>
    obtain ⟨n, c, A2, rfl, hI⟩ := hrel
    obtain ⟨dn, v', hg, hP⟩ := hI.out
    clear hI
    obtain ⟨c1, xs, f, x1, x2, x3, x4⟩ := hP.wv
    have HX := Lib.hid (And.intro x1 (And.intro x2 (And.intro x3 x4)))
    have g2 := x1.bx.cell 2
    have HI := Lib.hid (And.intro hP hg)
    clear hP hg x1 x2 x3 x4
    by_cases hp : xs.length = 0
    · rw [hp] at g2
      have hv : v' = [] := List.eq_nil_of_length_eq_zero (by rw [← HX.out.2.2.1.len]; exact hp)
      have HV := Lib.hid hv
      clear hp hv
      go_wp2_with (fail)
      go_ret
      exact HI.out.1.fin (by rw [HV.out]; rfl)
    · have hv : minV v' = some (ath xs 0) := minV_heap HX.out.2.2.1 HX.out.2.1 (by omega)
      have HC0 := Lib.hid (cut_any HX.out.1 HX.out.2.1 0 (by omega))
      obtain ⟨x0, hx0⟩ : ∃ x, ath xs 0 = x := ⟨_, rfl⟩
      rw [hx0] at HC0 hv
      obtain ⟨q, rfl, hq, hqg, hqm, ci0, ci1, _, _⟩ := HX.out.1.at_ (i := 0) (by omega)
      rw [hx0] at ci1
      have hpI : (0 : Int) < (xs.length : Int) := by omega
      have c1' : wr.cell? ⟨q, 1, none⟩ = some (.int .i64 x0.t) := by simpa using ci1
      have HV := Lib.hid (And.intro hv (And.intro hx0 hp))
      clear hv hx0 ci0 ci1 hqg hqm hq hp
      by_cases ht : x0.t ≤ now
      · have HT := Lib.hid ht
        have HCC := Lib.hid (show Calls Try.prog 23 #[.pointer (some ⟨g, 0, none⟩), .int .i64 0] wr (fun e w2 => e = .returned (.agg #[.int .i64 x0.id, .int .i64 x0.t]) ∧ WV w2 g mb (some ⟨q, 0, none⟩) N (dropV v' x0.id) ∧ KeepH g mb (some ⟨q, 0, none⟩) wr w2 ∧ Sl w2 1 (.slice A2 n c) n (dn.map idV)) from by
          refine HC0.out.mono ?_
          rintro e w2 ⟨rfl, c', ys, f', j1, j2, j3, j4, j5⟩
          have r := HX.out.2.2.1.cut HX.out.1.pl (i := 0) (by have := HV.out.2.2; omega) j3 (by rw [HV.out.2.1]; exact j4)
          rw [HV.out.2.1] at r
          refine ⟨rfl, ⟨c', ys, f', j1, j2, r, by have := HX.out.2.2.2; omega⟩, j5, HI.out.1.sl.keepK j5 fun p hp => ?_⟩
          have a := HI.out.1.ow p hp
          have L := H.out.lt
          have b := HI.out.1.sl.lt p hp
          exact ⟨b, by omega, by omega, fun q' hq' => by have := (L.2.2 q' hq').1; omega⟩)
        have hn1 : n + 1 ≤ 1001 := by
          have := HI.out.1.hn
          have := HI.out.1.hl
          have := H.out.len.2
          omega
        go_wp2_with (first
          | (go_at_call 23; refine HCC.out.mono ?_; rintro e w2 ⟨rfl, k2, k3, k4⟩; have HSL := Lib.hid (k4.alloc (.cells #[.int .i64 x0.id] 3)); have HSR := Lib.hid (src_new (P := Try.prog) Try.underlying34 w2 3 (.int .i64 x0.id) rfl); have H2 := Lib.hid (And.intro k2 k3); clear k2 k3 k4)
          | (at_builtin; go_must (refine wpList_append_sl _ rfl (.tmp 28) (.tmp 34) 34 34 rfl 3 j0 (.int .i64 0) 1 8 Try.underlying34 hj0 hy0 hy1 hy2 rfl (.slice A2 n c) n (dn.map idV) rfl HSL.out _ rfl 1 [.int .i64 x0.id] HSR.out (by unfold maxLen; omega) (by omega) ?_); intro v3 w9 hs3 hg3 hv3; obtain ⟨A3, c3, rfl, hc3, hm3⟩ := hs3.shape; have H3 := Lib.hid (And.intro hs3 (And.intro hg3 hv3)); clear hs3 hg3 hv3 hc3 hm3))
        go_roundg ((dropV v' x0.id).length + 1)
        case measure =>
          have := HI.out.2
          have := drop_len HI.out.1.wv.nodup (minV_mem HV.out.1).1
          omega
        case rel => exact ⟨n + 1, c3, A3, rfl, dn ++ [x0], dropV v' x0.id, rfl, HI.out.1.step HV.out.1 (by have := HT.out; omega) H2.out.1 H2.out.2 HI.out.1.kp.size H.out H3.out.1 H3.out.2.1 H3.out.2.2⟩
      · have HT := Lib.hid ht
        go_wp2_with (fail)
        go_ret
        exact HI.out.1.fin (popV_late HV.out.1 (by have := HT.out; omega))
end Go.Proofs.Ytkdijafnakpfhaa
