/- The walk of package quota's Put. -/
import Derived.Test.YtkdfbmbccopchaaQueue
import Derived.Deep.Cut
import Derived.Deep.CutRange
import Derived.Deep.DeepCutAuto
namespace Go.Proofs.Ytkdfbmbccopchaa
open Go.RowKit Go.Lib

def After (O : Nat → Prop) (w w' : World) : Nat → Prop := fun i => O i ∨ (w.heap.size ≤ i ∧ i < w'.heap.size)
theorem QS.more {w : World} {g n n' room each : Nat} {cl : Cl} {O O' : Nat → Prop} (h : QS w g n room each cl O) (hn : n ≤ n') (ho : ∀ i, O i → O' i) : QS w g n' room each cl O' := by
  obtain ⟨mb, rv, F, ⟨h1, h2, D, h3, h3'⟩, h4, ⟨⟨o1, o2, o3⟩, o4, o5, o6⟩⟩ := h
  exact ⟨mb, rv, F, ⟨h1, h2, D, h3.mono hn, h3'⟩, h4, ⟨⟨ho _ o1, ho _ o2, o3⟩, fun k e => ⟨ho _ (o4 k e).1, (o4 k e).2⟩, fun a k e => ⟨ho _ (o5 a k e).1, (o5 a k e).2⟩, o6⟩⟩
/-- What Put makes of what waits, and answers. -/
def putQ (room each : Nat) (cl : Cl) (a id : Int) : Cl × Int :=
  if room ≤ manyC cl then (cl, 8) else if each ≤ (getC cl a).length then (cl, 11) else if id ∈ getC cl a then (cl, 4) else (addC cl a id, 0)
def PutPost (g n room each : Nat) (cl : Cl) (O : Nat → Prop) (a id : Int) (w : World) (e : Ending) (w' : World) : Prop :=
  e = .returned (.int .i64 (putQ room each cl a id).2) ∧ QS w' g (n + 1) room each (putQ room each cl a id).1 (After O w w') ∧ KeepK (fun i => i < w.heap.size ∧ ¬ O i) w w'
theorem put_same {g n room each : Nat} {cl : Cl} {O : Nat → Prop} {a id : Int} {w : World} (h : QS w g n room each cl O) {r : Int} (hr : putQ room each cl a id = (cl, r)) (k : Nat) :
    PutPost g n room each cl O a id w (.returned (.int .i64 r)) (w.drewN k) := by
  unfold PutPost
  rw [hr]
  exact ⟨rfl, (h.drewN k).more (Nat.le_succ _) (fun i hi => .inl hi), (KeepK.refl _ _).drewN k⟩

set_option maxRecDepth 100000 in
set_option maxHeartbeats 2000000 in
theorem Put_no {g n room each : Nat} {cl : Cl} {O : Nat → Prop} (w : World) (h : QS w g n room each cl O) (a id : Int) (h0 : 0 ≤ a) (hm : a ≤ 4294967295) (hroom : room ≤ 1024) (heach : each ≤ 1024)
    (hno : room ≤ manyC cl ∨ each ≤ (getC cl a).length ∨ id ∈ getC cl a) (hsm : manyC cl ≤ 1000000) (hgl : (getC cl a).length ≤ 1000000) :
    Calls Try.prog 12 #[.pointer (some ⟨g, 0, none⟩), .int .u32 a, .int .i64 id] w (PutPost g n room each cl O a id w) := by
  have HQ := Lib.hid h
  obtain ⟨mb, rv, F, ⟨h1, h2, h3⟩, ⟨_, h5, _⟩, _⟩ := h
  have c0 : w.cell? ⟨g, 0, none⟩ = some (.int .i64 (room : Int)) := h1.cell 0
  have c1 : w.cell? ⟨g, 1, none⟩ = some (.int .i64 (each : Int)) := h1.cell 1
  have c2 : w.cell? ⟨g, 2, none⟩ = some (.int .i64 (manyC cl : Int)) := h1.cell 2
  have c4 : w.cell? ⟨g, 4, none⟩ = some (.map (some mb)) := h1.cell 4
  obtain ⟨A, c, hF, _, _⟩ := (h5 a).shape
  have hlk : ∀ k, (Instr.lookup 90 (.map (some mb)) (.int .u32 a) false).run Try.prog (w.drewN k) = .ok (.slice A (getC cl a).length c) (w.drewN k) := fun k => by
    rw [← hF]; exact (h3.drewN k).look h0 hm
  have hsl : TTab w A ((getC cl a).map (Value.int .i64)) := by
    have := h5 a
    rw [hF] at this
    exact ttab_of_sl (c := c) (by rw [List.length_map]; exact this)
  have HT := Lib.hid hsl
  have HCT := Lib.hid (fun k => containsI_any (getC cl a) A c id (w.drewN k) hsl hgl)
  have hput := fun r hr => put_same (a := a) (id := id) HQ.out (r := r) hr
  have HP := Lib.hid hput
  obtain ⟨m, hmm⟩ : ∃ m, manyC cl = m := ⟨_, rfl⟩
  obtain ⟨l, hll⟩ : ∃ l, (getC cl a).length = l := ⟨_, rfl⟩
  rw [hmm] at c2 hsm
  rw [hll] at hlk hgl
  have hmI : (m : Int) ≤ 1000000 := by omega
  have hlI : (l : Int) ≤ 1000000 := by omega
  have hrI : (room : Int) ≤ 1024 := by omega
  have heI : (each : Int) ≤ 1024 := by omega
  have hputv : ∀ r, (putQ room each cl a id = (cl, r)) = (putQ room each cl a id = (cl, r)) := fun _ => rfl
  by_cases t1 : room ≤ m
  · have t1I : (room : Int) ≤ (m : Int) := by omega
    have hr : putQ room each cl a id = (cl, 8) := by unfold putQ; rw [hmm, if_pos t1]
    have HR := Lib.hid (fun k => HP.out 8 hr k)
    clear h1 h2 h3 h5 hF hlk hsl hput hno t1 hr hputv hmm hll c1 c4 hgl hsm
    go_enter Try.func12, Try.ntmps12
    go_wp2_with (fail)
    go_region
    go_wp2_with (fail)
    go_ret
    exact HR.out 1
  · have t1I : ¬ (room : Int) ≤ (m : Int) := by omega
    have hlk1 : (Instr.lookup 90 (.map (some mb)) (.int .u32 a) false).run Try.prog w.drew = .ok (.slice A l c) w.drew := hlk 1
    by_cases t2 : each ≤ l
    · have t2I : (each : Int) ≤ (l : Int) := by omega
      have hr : putQ room each cl a id = (cl, 11) := by unfold putQ; rw [hmm, if_neg t1, hll, if_pos t2]
      have HR := Lib.hid (fun k => HP.out 11 hr k)
      clear h1 h2 h3 h5 hF hlk hsl hput hno t1 t2 hr hputv hmm hll hgl hsm
      go_enter Try.func12, Try.ntmps12
      go_wp2_with (fail)
      go_region
      go_wp2_with (fail)
      go_ret
      exact HR.out 1
    · have t2I : ¬ (each : Int) ≤ (l : Int) := by omega
      have t3 : id ∈ getC cl a := by
        rcases hno with h | h | h
        · rw [hmm] at h; exact absurd h t1
        · rw [hll] at h; exact absurd h t2
        · exact h
      have hr : putQ room each cl a id = (cl, 4) := by unfold putQ; rw [hmm, if_neg t1, hll, if_neg t2, if_pos t3]
      have HR := Lib.hid (fun k => HP.out 4 hr k)
      have hct : Calls Try.prog 50 #[.slice A l c, .int .i64 id] w.drew fun e w' => e = .returned (.bool true) ∧ w.drew = w' := by
        have h := HCT.out 1
        rw [decide_eq_true t3, hll] at h
        exact h
      have HC := Lib.hid hct
      clear h1 h2 h3 h5 hF hlk hsl hput hno t1 t2 t3 hr hputv hmm hll hgl hsm hct HCT
      go_enter Try.func12, Try.ntmps12
      go_wp2_with (fail)
      go_region
      go_wp2_with (fail)
      with_reducible refine HC.out.mono ?_
      rintro e w1 ⟨rfl, rfl⟩
      go_wp2_with (fail)
      go_ret
      exact HR.out 1
/-- What may turn where one client's numbers, and the row, turn. -/
def KeepQ (w : World) (g mb : Nat) (rv fv : Value) (w' : World) : Prop := KeepK (fun i => i < w.heap.size ∧ i ≠ g ∧ i ≠ mb ∧ rv.ownBlock ≠ some i ∧ fv.ownBlock ≠ some i) w w'
/-- A queue, one of whose clients' numbers have turned. -/
theorem qs_turn {w w' : World} {g n' mb : Nat} {room each : Nat} {cl cl' : Cl} {O : Nat → Prop} {rv rv' v' : Value} {F : Int → Value} {a : Int} {ys : List Int}
    (h1 : g < w.heap.size) (h2 : Sl w 1 rv cl.length (cl.map fun p => u32V p.1)) (h3 : mb < w.heap.size)
    (h5 : ∀ a, Sl w 1 (F a) (getC cl a).length ((getC cl a).map i64V)) (h6 : ∀ a, getC cl a = [] → F a = nilS)
    (ho : (O g ∧ O mb ∧ g ≠ mb) ∧ (∀ k, rv.ownBlock = some k → O k ∧ k ≠ g ∧ k ≠ mb) ∧ (∀ a k, (F a).ownBlock = some k → O k ∧ k ≠ g ∧ k ≠ mb ∧ rv.ownBlock ≠ some k) ∧ ∀ a b k, (F a).ownBlock = some k → (F b).ownBlock = some k → a = b)
    (b1 : Blk w' g 92 #[.int .i64 (room : Int), .int .i64 (each : Int), .int .i64 (manyC cl' : Int), rv', .map (some mb)]) (b2 : Sl w' 1 rv' cl'.length (cl'.map fun p => u32V p.1)) (b3 : MapF w' mb n' (upd F a v'))
    (b4 : OkC cl') (b5 : Sl w' 1 v' ys.length (ys.map i64V)) (b6 : ∀ b, getC cl' b = if b = a then ys else getC cl b) (b7 : ys = [] → v' = nilS)
    (k1 : KeepQ w g mb rv (F a) w') (k2 : ∀ k, v'.ownBlock = some k → (F a).ownBlock = some k ∨ (w.heap.size ≤ k ∧ k < w'.heap.size)) (k3 : ∀ k, rv'.ownBlock = some k → rv.ownBlock = some k ∨ (w.heap.size ≤ k ∧ k < w'.heap.size))
    (k4 : ∀ k, v'.ownBlock = some k → rv'.ownBlock ≠ some k) :
    QS w' g n' room each cl' (After O w w') ∧ KeepK (fun i => i < w.heap.size ∧ ¬ O i) w w' := by
  obtain ⟨⟨o1, o2, o3⟩, o4, o5, o6⟩ := ho
  have hF : ∀ b k, (F b).ownBlock = some k → k < w.heap.size := fun b k hk => (h5 b).lt k hk
  have hR : ∀ k, rv.ownBlock = some k → k < w.heap.size := fun k hk => h2.lt k hk
  refine ⟨⟨mb, rv', upd F a v', ⟨b1, b2, b3⟩, ⟨b4, fun b => ?_, fun b hb => ?_⟩, ⟨⟨.inl o1, .inl o2, o3⟩, fun k hk => ?_, fun b k hk => ?_, fun b c k hb hc => ?_⟩⟩, KeepK.mono k1 fun i hi => ⟨hi.1, fun e => hi.2 (e ▸ o1), fun e => hi.2 (e ▸ o2), fun e => hi.2 (o4 i e).1, fun e => hi.2 (o5 a i e).1⟩⟩
  · unfold upd
    rw [b6 b]
    by_cases e : b = a
    · rw [if_pos e, if_pos e]; exact b5
    · rw [if_neg e, if_neg e]
      refine (h5 b).keepK k1 fun k hk => ⟨hF b k hk, (o5 b k hk).2.1, (o5 b k hk).2.2.1, (o5 b k hk).2.2.2, fun h => e (o6 b a k hk h)⟩
  · unfold upd
    rw [b6 b] at hb
    by_cases e : b = a
    · rw [if_pos e] at hb ⊢; exact b7 hb
    · rw [if_neg e] at hb ⊢; exact h6 b hb
  · rcases k3 k hk with h | h
    · exact ⟨.inl (o4 k h).1, (o4 k h).2⟩
    · exact ⟨.inr h, by omega, by omega⟩
  · unfold upd at hk
    by_cases e : b = a
    · rw [if_pos e] at hk
      refine ⟨?_, ?_, ?_, k4 k hk⟩
      · rcases k2 k hk with h | h
        · exact .inl (o5 a k h).1
        · exact .inr h
      · rcases k2 k hk with h | h
        · exact (o5 a k h).2.1
        · omega
      · rcases k2 k hk with h | h
        · exact (o5 a k h).2.2.1
        · omega
    · rw [if_neg e] at hk
      refine ⟨.inl (o5 b k hk).1, (o5 b k hk).2.1, (o5 b k hk).2.2.1, fun h => ?_⟩
      rcases k3 k h with h' | h'
      · exact (o5 b k hk).2.2.2 h'
      · have := hF b k hk; omega
  · unfold upd at hb hc
    by_cases eb : b = a
    · by_cases ec : c = a
      · rw [eb, ec]
      · rw [if_pos eb] at hb
        rw [if_neg ec] at hc
        rcases k2 k hb with h | h
        · rw [eb]; exact o6 a c k h hc
        · have := hF c k hc; omega
    · by_cases ec : c = a
      · rw [if_neg eb] at hb
        rw [if_pos ec] at hc
        rcases k2 k hc with h | h
        · rw [ec]; exact o6 b a k hb h
        · have := hF b k hb; omega
      · rw [if_neg eb] at hb
        rw [if_neg ec] at hc
        exact o6 b c k hb hc
theorem step_map_run {P : Program} {ops : Array Oper} {o : Oper} {a : Act} {w w' : World} {K : Act → World → Prop} {Q : Exit → Act → World → Prop} {E : Prop} (hgd : o.guard = none) (m x v : Operand) (t : TypeId)
    (ho : o.op = .mapUpdate t m x v) (mv kv vv : Value) (hm : a.eval m = mv) (hx : a.eval x = kv) (hv : a.eval v = vv)
    (hrun : (Instr.mapUpdate t mv kv vv).run P w = .ok () w') (h : K (a.put o.dst undef) w') :
    if Region.wanted o (yielded ops a.tmps) = true then Oper.wp P o a w K Q else E := by
  have hw : Region.wanted o (yielded ops a.tmps) = true := by simp [Region.wanted, hgd]
  rw [if_pos hw]
  unfold Oper.wp
  simp [execOp, ho, hm, hx, hv, hrun, Result.andThen]
  exact h

set_option maxRecDepth 100000 in
set_option maxHeartbeats 8000000 in
theorem Put_yes {g n room each : Nat} {cl : Cl} {O : Nat → Prop} (w : World) (h : QS w g n room each cl O) (a id : Int) (h0 : 0 ≤ a) (hm : a ≤ 4294967295) (hroom : room ≤ 1024) (heach : each ≤ 1024)
    (hn : n ≤ 1000000) (t1 : ¬ room ≤ manyC cl) (t2 : ¬ each ≤ (getC cl a).length) (t3 : id ∉ getC cl a) (hcl : cl.length ≤ 1000000) :
    Calls Try.prog 12 #[.pointer (some ⟨g, 0, none⟩), .int .u32 a, .int .i64 id] w (PutPost g n room each cl O a id w) := by
  obtain ⟨j0, hj0, hy0, hy1, hy2⟩ := info_parts info_int
  obtain ⟨k0, hk0, hq0, hq1, hq2⟩ := info_parts info_u32d
  have HQ := Lib.hid h
  obtain ⟨mb, rv, F, ⟨h1, h2, h3⟩, ⟨h4, h5, h6⟩, ⟨⟨o1, o2, o3⟩, o4, o5, o6⟩⟩ := h
  have c0 : w.cell? ⟨g, 0, none⟩ = some (.int .i64 (room : Int)) := h1.cell 0
  have c1 : w.cell? ⟨g, 1, none⟩ = some (.int .i64 (each : Int)) := h1.cell 1
  have c2 : w.cell? ⟨g, 2, none⟩ = some (.int .i64 (manyC cl : Int)) := h1.cell 2
  have c3 : w.cell? ⟨g, 3, none⟩ = some rv := h1.cell 3
  have c4 : w.cell? ⟨g, 4, none⟩ = some (.map (some mb)) := h1.cell 4
  obtain ⟨A, c, hF, _, _⟩ := (h5 a).shape
  have hlk1 : (Instr.lookup 90 (.map (some mb)) (.int .u32 a) false).run Try.prog w.drew = .ok (.slice A (getC cl a).length c) w.drew := by
    rw [← hF]; exact h3.drew.look h0 hm
  have hsl : TTab w A ((getC cl a).map (Value.int .i64)) := by
    have := h5 a
    rw [hF] at this
    exact ttab_of_sl (c := c) (by rw [List.length_map]; exact this)
  have hct : Calls Try.prog 50 #[.slice A (getC cl a).length c, .int .i64 id] w.drew fun e w' => e = .returned (.bool false) ∧ w.drew = w' := by
    have h := containsI_any (getC cl a) A c id w.drew hsl (by omega)
    rw [decide_eq_false t3] at h
    exact h
  have HC := Lib.hid hct
  obtain ⟨m, hmm⟩ : ∃ m, manyC cl = m := ⟨_, rfl⟩
  obtain ⟨l, hll⟩ : ∃ l, (getC cl a).length = l := ⟨_, rfl⟩
  rw [hmm] at c2 t1 h1
  rw [hll] at hlk1 t2
  have hmI : (m : Int) ≤ 1024 := by omega
  have hlI : (l : Int) ≤ 1024 := by omega
  have hrI : (room : Int) ≤ 1024 := by omega
  have heI : (each : Int) ≤ 1024 := by omega
  have t1I : ¬ (room : Int) ≤ (m : Int) := by omega
  have t2I : ¬ (each : Int) ≤ (l : Int) := by omega
  have hr : putQ room each cl a id = (addC cl a id, 0) := by unfold putQ; rw [hmm, if_neg t1, hll, if_neg t2, if_neg t3]
  rw [hll] at HC
  have hgl : g < w.heap.size := h1.lt
  have hFA : F a = .slice A l c := by rw [hF, hll]
  have hcl' : (addC cl a id).length ≤ 1000000 + 1 ∧ (l ≠ 0 → (addC cl a id).map Prod.fst = cl.map Prod.fst) ∧ (l = 0 → addC cl a id = cl ++ [(a, [id])]) := by
    rcases getC_has h4 a with ⟨p, hp, hpa, hg, hne⟩ | ⟨hno, hg⟩
    · have hk := addC_keys (id := id) ⟨p, hp, hpa⟩
      refine ⟨?_, fun _ => hk, fun h => absurd (List.eq_nil_of_length_eq_zero (hll.trans h)) hne⟩
      have := congrArg List.length hk
      rw [List.length_map, List.length_map] at this
      omega
    · refine ⟨?_, fun h => absurd (by rw [← hll, hg]; rfl) h, fun _ => addC_new hno⟩
      rw [addC_new hno, List.length_append]
      simp
      omega
  have HA := Lib.hid hcl'
  have HB := Lib.hid h1
  have HR := Lib.hid h2
  have HMF := Lib.hid h3
  have HOK := Lib.hid (And.intro h4 (And.intro h5 h6))
  have HO := Lib.hid (And.intro (And.intro o1 (And.intro o2 o3)) (And.intro o4 (And.intro o5 o6)))
  have HFA := Lib.hid hFA
  have HNN := Lib.hid (And.intro hn (And.intro hmm (And.intro hll (And.intro hr (And.intro hcl (And.intro h0 hm))))))
  clear h1 h2 h3 h4 h5 h6 o1 o2 o3 o4 o5 o6 hF hmm hll hr hn t1 t2 t3 hct hsl hcl hcl' hFA
  go_enter Try.func12, Try.ntmps12
  go_wp2_with (fail)
  go_region
  go_wp2_with (fail)
  with_reducible refine HC.out.mono ?_
  rintro e w1 ⟨rfl, rfl⟩
  go_upto_if 39 with (fail)
  go_cut [] (fun wx => ∃ rv', Aside (Blk wx g 92 #[.int .i64 (room : Int), .int .i64 (each : Int), .int .i64 (m : Int), rv', .map (some mb)]) ∧ Aside (Sl wx 1 rv' (addC cl a id).length ((addC cl a id).map fun p => u32V p.1)) ∧ Aside (KeepK (fun i => i < w.heap.size ∧ i ≠ g ∧ rv.ownBlock ≠ some i) w wx) ∧ Aside (∀ k, rv'.ownBlock = some k → rv.ownBlock = some k ∨ (w.heap.size ≤ k ∧ k < wx.heap.size)))
  case first =>
    by_cases hl0 : l = 0
    · have hl0I : ((l : Int) == 0) = true := by simp; omega
      have hadd := HA.out.2.2 hl0
      have HAD := Lib.hid hadd
      have hcl2 : cl.length ≤ 1000000 := HNN.out.2.2.2.2.1
      have f3 : w.frozen? ⟨g, 3, none⟩ = false := HB.out.frozen 3
      have hrl := HR.out.lt
      have hro := HO.out.2.1
      have HRL := Lib.hid (And.intro hrl hro)
      clear hadd hl0 hrl hro
      go_wp2_with (at_builtin; go_must (refine wpList_append_sl _ rfl (.tmp 44) (.tmp 46) 33 33 rfl 28 k0 (.int .u32 0) 1 4 Try.underlying33 hk0 hq0 hq1 hq2 rfl rv cl.length (cl.map fun p : Int × List Int => u32V p.1) rfl ((HR.out.alloc _).drewN 1) _ rfl 1 [.int .u32 a] (src_new (P := Try.prog) Try.underlying33 (w.drewN 1) 28 (.int .u32 a) rfl) (by unfold maxLen; omega) (by omega) ?_); intro v6 w6 hs6 hg6 hv6; obtain ⟨A6, c6, rfl, _, _⟩ := hs6.shape; have hkk : KeepK (fun i => i < w.heap.size ∧ rv.ownBlock ≠ some i) w w6 := ((((KeepK.refl _ w).alloc (fun i hi => hi.1) _).drewN 1).grown hg6 (fun i hi => by have := hi.1; show i < (w.alloc _).heap.size; simp; omega) (fun i hi e => hi.2 e.symm)); have d3 : w6.cell? ⟨g, 3, none⟩ = some rv := (hkk.cell (p := ⟨g, 3, none⟩) ⟨hgl, fun e => (HRL.out.2 g e).2.1 rfl⟩).trans c3; have e3 : w6.frozen? ⟨g, 3, none⟩ = false := (hkk.frozen (p := ⟨g, 3, none⟩) ⟨hgl, fun e => (HRL.out.2 g e).2.1 rfl⟩).trans f3; have H6 := Lib.hid (And.intro hs6 (And.intro hg6 (And.intro hv6 hkk))); clear hs6 hg6 hv6 hkk)
      go_meet
      case rel =>
        obtain ⟨hs6, hg6, hv6, hkk⟩ := H6.out
        have hgr : rv.ownBlock ≠ some g := fun e => (HO.out.2.1 g e).2.1 rfl
        have hsz := hg6.size
        obtain ⟨v6, hv6e⟩ : ∃ v6, Value.slice A6 (cl.length + 1) c6 = v6 := ⟨_, rfl⟩
        rw [hv6e] at hs6 hv6 ⊢
        have hown : ∀ k, v6.ownBlock = some k → rv.ownBlock = some k ∨ (w.heap.size ≤ k ∧ k < w6.heap.size) := fun k hk => by
          rcases hv6 with e | e
          · left; rw [← e]; exact hk
          · right
            have hlt := hs6.lt k hk
            rw [e] at hk
            have hk2 : ((w.drewN 1).alloc (.cells #[.int .u32 a] 28)).heap.size = k := Option.some.inj hk
            have : w.heap.size + 1 = k := by rw [← hk2]; show _ = (w.alloc _).heap.size; simp
            omega
        have hne6 : ∀ k, v6.ownBlock = some k → k ≠ g := fun k hk e => by
          rcases hown k hk with h | h
          · exact hgr (by rw [h, e])
          · omega
        refine ⟨v6, ?_, ?_, ?_, ?_⟩
        · exact (HB.out.keepK hkk ⟨hgl, hgr⟩).set_ 3 v6
        · show Sl _ _ _ _ _
          rw [HAD.out, List.length_append, List.map_append]
          exact hs6.far (p := ⟨g, 3, none⟩) hne6 _
        · exact (hkk.mono fun i hi => ⟨hi.1, hi.2.2⟩).setCell (p := ⟨g, 3, none⟩) (fun i hi => hi.2.1) _
        · show ∀ k, _
          intro k hk
          rcases hown k hk with h | h
          · exact .inl h
          · exact .inr ⟨h.1, by simpa [World.setCell] using h.2⟩
    · have hl0I : ((l : Int) == 0) = false := by simp; omega
      have HAD := Lib.hid (HA.out.2.1 hl0)
      clear hl0
      go_wp2_with (fail)
      go_meet
      case rel =>
        have hk := HAD.out
        have hk2 : (addC cl a id).map (fun p => u32V p.1) = cl.map fun p => u32V p.1 := by
          have := congrArg (List.map u32V) hk
          rw [List.map_map, List.map_map] at this
          exact this
        have hk3 : (addC cl a id).length = cl.length := by
          have := congrArg List.length hk
          simpa using this
        refine ⟨rv, HB.out.drewN 1, ?_, (KeepK.refl _ _).drewN 1, fun k hk => .inl hk⟩
        show Sl _ _ _ _ _
        rw [hk2, hk3]
        exact HR.out.drewN 1
  case rest =>
    obtain ⟨rv', hb1, hb2, hb3, hb4⟩ := hcut
    obtain ⟨w2, rfl⟩ : ∃ w2, w2 = wc := ⟨_, rfl⟩
    have hgl2 : g < w2.heap.size := hb1.out.lt
    have d4 : w2.cell? ⟨g, 4, none⟩ = some (.map (some mb)) := hb1.out.cell 4
    have hM2 : MapF w2 mb n F := HMF.out.keepK hb3.out ⟨HMF.out.lt, fun e => HO.out.1.2.2 e.symm, fun e => (HO.out.2.1 mb e).2.2 rfl⟩
    have hFo : ∀ k, (F a).ownBlock = some k → k < w.heap.size ∧ k ≠ g ∧ k ≠ mb ∧ rv.ownBlock ≠ some k := fun k hk => ⟨(HOK.out.2.1 a).lt k hk, (HO.out.2.2.1 a k hk).2⟩
    have hsl1 : ∀ o : Obj, Sl ((w2.drewN 1).alloc o) 1 (.slice A l c) l ((getC cl a).map i64V) := fun o => by
      have h := HOK.out.2.1 a
      rw [HFA.out, HNN.out.2.2.1] at h
      exact ((h.keepK hb3.out fun k hk => ⟨(hFo k (by rw [HFA.out]; exact hk)).1, (hFo k (by rw [HFA.out]; exact hk)).2.1, (hFo k (by rw [HFA.out]; exact hk)).2.2.2⟩).drewN 1).alloc o
    have HSL := Lib.hid hsl1
    have hnb : n < maxLen := by have := HNN.out.1; unfold maxLen; omega
    have hb3s := hb3.out.size
    have k6 : ∀ (w6 : World), (((w2.alloc (.cells #[.int .i64 id] 3)).drewN 1).grownBy w6 (Value.slice A l c).ownBlock) → KeepK (fun i => i < w2.heap.size ∧ (F a).ownBlock ≠ some i) w2 w6 ∧ MapF w6 mb n F ∧ w6.cell? ⟨g, 4, none⟩ = some (.map (some mb)) := fun w6 hg6 => by
      have hk : KeepK (fun i => i < w2.heap.size ∧ (F a).ownBlock ≠ some i) w2 w6 := ((((KeepK.refl _ w2).alloc (fun i hi => hi.1) _).drewN 1).grown hg6 (fun i hi => by have := hi.1; show i < (w2.alloc _).heap.size; simp; omega) (fun i hi e => hi.2 (by rw [HFA.out]; exact e.symm)))
      refine ⟨hk, hM2.keepK hk ⟨hM2.lt, fun e => (hFo mb e).2.2.1 rfl⟩, ?_⟩
      exact (hk.cell (p := ⟨g, 4, none⟩) ⟨hgl2, fun e => (hFo g e).2.1 rfl⟩).trans d4
    have k7 : ∀ (w6 w7 : World), w6.cell? ⟨g, 4, none⟩ = some (.map (some mb)) → w6.mapTurned w7 mb → w7.cell? ⟨g, 4, none⟩ = some (.map (some mb)) := fun w6 w7 hc ht =>
      ((keep_turned ht).cell (p := ⟨g, 4, none⟩) ⟨World.block_lt_of_cell? _ _ hc, HO.out.1.2.2⟩).trans hc
    have K6 := Lib.hid (And.intro k6 k7)
    have HFO := Lib.hid hFo
    have h0 := HNN.out.2.2.2.2.2.1
    have hm := HNN.out.2.2.2.2.2.2
    clear k6 k7 hsl1 hFo hM2 c0 c1 c2 c3 c4 hlk1
    go_wp2_with (fail)
    go_region_held3 (fun w' => w'.cell? ⟨g, 4, none⟩ = some (.map (some mb))) (first | assumption | exact d4 | exact (World.cell?_alloc_lt _ _ _ hgl2).trans d4)
      ((refine step_append_sl _ (by rfl) (.tmp 55) (.tmp 57) 62 62 rfl 3 j0 (.int .i64 0) 1 8 Try.underlying62 hj0 hy0 hy1 hy2 rfl (.slice A l c) l ((getC cl a).map i64V) rfl (HSL.out _) _ rfl 1 [.int .i64 id] (src_new (P := Try.prog) Try.underlying62 (w2.drewN 1) 3 (.int .i64 id) rfl) (by unfold maxLen; omega) (by omega) ?_; intro v6 w6 hs6 hg6 hv6; obtain ⟨hk6, hm6, hc6⟩ := K6.out.1 w6 hg6; obtain ⟨w7, hrun7, hm7, ht7⟩ := hm6.put hnb h0 hm v6; have hc7 := K6.out.2 w6 w7 hc6 ht7; have H7 := Lib.hid (And.intro hs6 (And.intro hg6 (And.intro hv6 (And.intro hk6 (And.intro hm7 ht7))))); clear hs6 hg6 hv6 hk6 hm6 hm7 ht7))
    have hB7 : Blk w7 g 92 #[.int .i64 (room : Int), .int .i64 (each : Int), .int .i64 (m : Int), rv', .map (some mb)] := by
      have h6 := hb1.out.keepK H7.out.2.2.2.1 ⟨hgl2, fun e => (HFO.out g e).2.1 rfl⟩
      exact h6.keepK (keep_turned H7.out.2.2.2.2.2) ⟨h6.lt, HO.out.1.2.2⟩
    have e2 : w7.cell? ⟨g, 2, none⟩ = some (.int .i64 (m : Int)) := hB7.cell 2
    have p2 : w7.frozen? ⟨g, 2, none⟩ = false := hB7.frozen 2
    have HB7 := Lib.hid hB7
    clear hB7 hrun7 hc6 hc7
    go_wp2_with (fail)
    go_ret
    obtain ⟨hs6, hg6, hv6, hk6, hm7, ht7⟩ := H7.out
    have hkt := keep_turned ht7
    have hs26 := hk6.size
    have hs67 := hkt.size
    have hs8 : (w7.setCell ⟨g, 2, none⟩ (.int .i64 ((m : Int) + 1))).heap.size = w7.heap.size := by simp [World.setCell]
    have hw2s := hb3.out.size
    have kall : KeepK (fun i => i < w2.heap.size ∧ i ≠ g ∧ i ≠ mb ∧ (F a).ownBlock ≠ some i) w2 (w7.setCell ⟨g, 2, none⟩ (.int .i64 ((m : Int) + 1))) :=
      ((hk6.mono fun i hi => ⟨hi.1, hi.2.2.2⟩).trans (hkt.mono fun i hi => ⟨Nat.lt_of_lt_of_le hi.1 hs26, hi.2.2.1⟩)).setCell (p := ⟨g, 2, none⟩) (fun i hi => hi.2.1) _
    have hmbl : mb < w.heap.size := HMF.out.lt
    have hrvk : ∀ k, rv'.ownBlock = some k → k < w2.heap.size ∧ k ≠ g ∧ k ≠ mb ∧ (F a).ownBlock ≠ some k := fun k hk => by
      refine ⟨hb2.out.lt k hk, ?_⟩
      rcases hb4.out k hk with h | h
      · exact ⟨(HO.out.2.1 k h).2.1, (HO.out.2.1 k h).2.2, fun e => (HFO.out k e).2.2.2 h⟩
      · exact ⟨by omega, by omega, fun e => by have := (HFO.out k e).1; omega⟩
    have hv6k : ∀ k, v6.ownBlock = some k → (F a).ownBlock = some k ∨ (w2.heap.size < k ∧ k < w6.heap.size) := fun k hk => by
      rcases hv6 with e | e
      · left; rw [HFA.out, ← e]; exact hk
      · right
        have hlt := hs6.lt k hk
        rw [e] at hk
        have hk2 : ((w2.drewN 1).alloc (.cells #[.int .i64 id] 3)).heap.size = k := Option.some.inj hk
        have : w2.heap.size + 1 = k := by rw [← hk2]; show _ = (w2.alloc _).heap.size; simp
        omega
    have hgo : ∀ k, v6.ownBlock = some k → k ≠ g ∧ k ≠ mb := fun k hk => by
      rcases hv6k k hk with h | h
      · exact ⟨(HFO.out k h).2.1, (HFO.out k h).2.2.1⟩
      · exact ⟨by omega, by omega⟩
    have hfin := qs_turn (O := O) (room := room) (each := each) (cl' := addC cl a id) (a := a) (ys := getC cl a ++ [id]) (rv' := rv') (v' := v6) (n' := n + 1) (w' := w7.setCell ⟨g, 2, none⟩ (.int .i64 ((m : Int) + 1))) HB.out.lt HR.out hmbl HOK.out.2.1 HOK.out.2.2 HO.out
      (by
        have h := HB7.out.set_ 2 (.int .i64 ((m : Int) + 1))
        rw [addC_many, HNN.out.2.1]
        exact h)
      (hb2.out.keepK kall hrvk)
      (hm7.keepK (K := fun i => i ≠ g) ((KeepK.refl _ _).setCell (p := ⟨g, 2, none⟩) (fun i hi => hi) _) (fun e => HO.out.1.2.2 e.symm))
      (HOK.out.1.add id h0 hm)
      (by
        have h1 : Sl w6 1 v6 (getC cl a ++ [id]).length ((getC cl a ++ [id]).map i64V) := by
          rw [List.length_append, List.map_append, HNN.out.2.2.1]
          exact hs6
        refine h1.keepK (K := fun i => i < w6.heap.size ∧ i ≠ g ∧ i ≠ mb) (((hkt.mono fun i hi => ⟨hi.1, hi.2.2⟩)).setCell (p := ⟨g, 2, none⟩) (fun i hi => hi.2.1) _) fun k hk => ⟨hs6.lt k hk, hgo k hk⟩)
      (fun b => addC_get cl a id b)
      (fun h => absurd h (by simp))
      ((hb3.out.mono fun i hi => ⟨hi.1, hi.2.1, hi.2.2.2.1⟩).trans (kall.mono fun i hi => ⟨Nat.lt_of_lt_of_le hi.1 hw2s, hi.2.1, hi.2.2.1, hi.2.2.2.2⟩))
      (fun k hk => by
        rcases hv6k k hk with h | h
        · exact .inl h
        · right; rw [hs8]; omega)
      (fun k hk => by
        rcases hb4.out k hk with h | h
        · exact .inl h
        · right; rw [hs8]; omega)
      (fun k hk e => by
        have h2 := hrvk k e
        rcases hv6k k hk with h | h
        · exact h2.2.2.2 h
        · omega)
    unfold PutPost
    rw [HNN.out.2.2.2.1]
    exact ⟨rfl, hfin.1, hfin.2⟩

theorem Put_q {g n room each : Nat} {cl : Cl} {O : Nat → Prop} (w : World) (h : QS w g n room each cl O) (a id : Int) (h0 : 0 ≤ a) (hm : a ≤ 4294967295) (hroom : room ≤ 1024) (heach : each ≤ 1024)
    (hn : n ≤ 1000000) (hcl : cl.length ≤ 1000000) (hsm : manyC cl ≤ 1000000) (hgl : (getC cl a).length ≤ 1000000) :
    Calls Try.prog 12 #[.pointer (some ⟨g, 0, none⟩), .int .u32 a, .int .i64 id] w (PutPost g n room each cl O a id w) := by
  by_cases t1 : room ≤ manyC cl
  · exact Put_no w h a id h0 hm hroom heach (.inl t1) hsm hgl
  · by_cases t2 : each ≤ (getC cl a).length
    · exact Put_no w h a id h0 hm hroom heach (.inr (.inl t2)) hsm hgl
    · by_cases t3 : id ∈ getC cl a
      · exact Put_no w h a id h0 hm hroom heach (.inr (.inr t3)) hsm hgl
      · exact Put_yes w h a id h0 hm hroom heach hn t1 t2 t3 hcl
end Go.Proofs.Ytkdfbmbccopchaa
