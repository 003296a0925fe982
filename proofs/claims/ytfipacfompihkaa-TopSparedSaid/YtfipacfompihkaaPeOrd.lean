/- The walk of pick.Order, where those that are ready failed equally often, and those that rest rest equally long. Conditions: none. -/
import Derived.Test.YtfipacfompihkaaPeStab1
import Derived.Test.YtfipacfompihkaaPeStab2
import Derived.Test.YtfipacfompihkaaRuns
import Derived.Test.YtfipacfompihkaaRangeP
import Derived.Test.YtfipacfompihkaaRef01E
import Derived.Stop.RegionWithIn
import Derived.Laws.MakeOwn
import Derived.Shelf.Abstract
import Derived.Test.YtfipacfompihkaaStill
namespace Go.Proofs.Ytfipacfompihkaa
open Go.RowKit Go.Lib Go.Shelf
attribute [local go_sem] Oper.semAt_some

def readyL (now : Int) (xs : List Pe) : List Pe := xs.filter fun x => !decide (now < x.r)
def restL (now : Int) (xs : List Pe) : List Pe := xs.filter fun x => decide (now < x.r)
theorem ready_snoc {now : Int} {xs : List Pe} {k : Nat} {x : Pe} (hx : xs[k]? = some x) : readyL now (xs.take (k + 1)) = readyL now (xs.take k) ++ (if now < x.r then [] else [x]) := by
  unfold readyL
  rw [List.take_add_one, hx]
  by_cases h : now < x.r <;> simp [h]
theorem rest_snoc {now : Int} {xs : List Pe} {k : Nat} {x : Pe} (hx : xs[k]? = some x) : restL now (xs.take (k + 1)) = restL now (xs.take k) ++ (if now < x.r then [x] else []) := by
  unfold restL
  rw [List.take_add_one, hx]
  by_cases h : now < x.r <;> simp [h]
theorem pe_one (xs : List Pe) : ∀ u ∈ flatV Pe.vs xs, u.oneCell' = true := by
  intro u hu
  obtain ⟨e, _, hu⟩ := List.mem_flatMap.1 hu
  simp only [Pe.vs, List.mem_cons, List.not_mem_nil, or_false] at hu
  rcases hu with rfl | rfl | rfl | rfl | rfl <;> rfl
theorem info_pe : (Try.prog.info? 35).map (fun i => (i.zero, i.size, i.bytes)) = some (some (.agg #[.int .u32 0, .string ⟨#[]⟩, .bool false, .int .i64 0, .int .i64 0]), 5, 48) := by kernel_rfl
theorem sl_row1p (w : World) (t : TypeId) (cs : List Value) : Sl (w.alloc (.cells cs.toArray t)) cs.length (.slice (some ⟨w.heap.size, 0, none⟩) 1 1) 1 cs := by
  have B := Blk.new w t cs.toArray
  refine ⟨by simp, .inr ⟨w.heap.size, 1, rfl, by simp, Nat.le_refl _, by unfold maxLen; omega, fun j hj => ⟨?_, B.frozen j⟩, fun j u hu => ?_⟩⟩
  · rw [B.cell j]
    rw [Nat.one_mul] at hj
    simp [hj]
  · rw [B.cell j]
    simpa using hu
theorem src_pe (w : World) (x : Pe) : Src Try.prog 5 31 (.slice (some ⟨w.heap.size, 0, none⟩) 1 1) 1 (flatV Pe.vs [x]) (w.alloc (.cells #[.int .u32 x.a, .string ⟨#[]⟩, .bool false, .int .i64 x.f, .int .i64 x.r] 35)) := by
  have hf : flatV Pe.vs [x] = Pe.vs x := by simp [flatV]
  rw [hf]
  have := sl_row1p w 35 (Pe.vs x)
  refine src_own Try.underlying31 this fun u hu => ?_
  exact pe_one [x] u (by rw [hf]; exact hu)
theorem flatV_take_len (R : List Pe) (k : Nat) (h : k ≤ R.length) : (flatV Pe.vs (R.take k)).length = k * 5 := by
  have : ∀ l : List Pe, (flatV Pe.vs l).length = l.length * 5 := fun l => by
    induction l with
    | nil => rfl
    | cons x l ih => rw [show flatV Pe.vs (x :: l) = Pe.vs x ++ flatV Pe.vs l from rfl, List.length_append, ih, Pe.five, List.length_cons]; omega
  rw [this, List.length_take, Nat.min_eq_left h]
theorem reads_part {w : World} {q c fr m : Nat} {R : List Pe} (h : PeS w (some ⟨q, 0, none⟩) c R) (hm : fr + m ≤ R.length) : Reads w w.heap.size 5 (some ⟨q, fr * 5, none⟩) m (flatV Pe.vs ((R.drop fr).take m)) := by
  refine ⟨?_, fun hp => ⟨_, rfl, Sl.lt h q rfl, fun j u hu => ?_⟩⟩
  · rw [flatV_take_len _ _ (by rw [List.length_drop]; omega)]
  · have ea : (⟨q, fr * 5, none⟩ : Addr).add j = ⟨q, fr * 5 + j, none⟩ := by unfold Addr.add; split <;> simp_all
    rw [ea]
    refine Sl.cell h rfl ?_
    have e1 : R = R.take fr ++ ((R.drop fr).take m ++ (R.drop fr).drop m) := by rw [List.take_append_drop, List.take_append_drop]
    have e2 : flatV Pe.vs R = flatV Pe.vs (R.take fr) ++ (flatV Pe.vs ((R.drop fr).take m) ++ flatV Pe.vs ((R.drop fr).drop m)) := by
      conv => lhs; rw [e1]
      rw [flatV_append, flatV_append]
    rw [e2, List.getElem?_append_right (by rw [flatV_take_len _ _ (by omega)]; omega), flatV_take_len _ _ (by omega), Nat.add_sub_cancel_left, List.getElem?_append_left (List.getElem?_eq_some_iff.1 hu).1]
    exact hu
structure OI (w wr : World) (R T : List Pe) (A7 : Option Addr) (c7 : Nat) (A8 : Option Addr) (c8 : Nat) : Prop where
  s7 : PeS wr A7 c7 R
  s8 : PeS wr A8 c8 T
  o7 : ∀ g, (Value.slice A7 R.length c7).ownBlock = some g → w.heap.size ≤ g
  o8 : ∀ g, (Value.slice A8 T.length c8).ownBlock = some g → w.heap.size ≤ g
  ne : ∀ g h, (Value.slice A7 R.length c7).ownBlock = some g → (Value.slice A8 T.length c8).ownBlock = some h → g ≠ h
  bl : Below w.heap.size w wr
theorem OI.swap {w wr : World} {R T : List Pe} {A7 A8 : Option Addr} {c7 c8 : Nat} (h : OI w wr R T A7 c7 A8 c8) : OI w wr T R A8 c8 A7 c7 := ⟨h.s8, h.s7, h.o8, h.o7, fun g k hg hk e => h.ne k g hk hg e.symm, h.bl⟩
theorem OI.below {w wr W : World} {R T : List Pe} {A7 A8 : Option Addr} {c7 c8 : Nat} (h : OI w wr R T A7 c7 A8 c8) (hb : Below wr.heap.size wr W) : OI w W R T A7 c7 A8 c8 :=
  ⟨h.s7.below hb, h.s8.below hb, h.o7, h.o8, h.ne, h.bl.trans (hb.mono h.bl.size)⟩
theorem OI.push {w V1 w9 : World} {R T : List Pe} {A7 A8 A3 : Option Addr} {c7 c8 c3 : Nat} (h : OI w V1 R T A7 c7 A8 c8) {x : Pe}
    (hs3 : Sl w9 5 (.slice A3 (R.length + 1) c3) (R.length + 1) (flatV Pe.vs R ++ flatV Pe.vs [x])) (hg3 : V1.grownBy w9 (Value.slice A7 R.length c7).ownBlock)
    (hv3 : (Value.slice A3 (R.length + 1) c3).ownBlock = (Value.slice A7 R.length c7).ownBlock ∨ (Value.slice A3 (R.length + 1) c3).ownBlock = some V1.heap.size) : OI w w9 (R ++ [x]) T A3 c3 A8 c8 := by
  have hl : (R ++ [x]).length = R.length + 1 := by simp
  have hz := h.bl.size
  refine ⟨?_, Sl.keep h.s8 hg3.size fun g hg => hg3.block g (Sl.lt h.s8 g hg) (fun e => h.ne g g e.symm hg rfl), fun g hg => ?_, h.o8, fun g k hg hk => ?_, h.bl.grown hg3 hz fun g hg => h.o7 g hg⟩
  · unfold PeS
    rw [hl, flatV_append]
    exact hs3
  · rw [hl] at hg
    rcases hv3 with e | e
    · rw [e] at hg; exact h.o7 g hg
    · rw [e] at hg; injection hg with hg; omega
  · rw [hl] at hg
    rcases hv3 with e | e
    · rw [e] at hg; exact h.ne g k hg hk
    · rw [e] at hg
      injection hg with hg
      have := Sl.lt h.s8 k hk
      omega
def OrdP (now : Int) (xs : List Pe) (w : World) (e : Ending) (w' : World) : Prop :=
  ∃ (A : Option Addr) (c : Nat) (R : List Pe), e = .returned (.slice A (R ++ restL now xs).length c) ∧ PeS w' A c (R ++ restL now xs) ∧ (∀ x ∈ R, x ∈ readyL now xs) ∧ R.length = (readyL now xs).length ∧ (∀ g, (Value.slice A (R ++ restL now xs).length c).ownBlock = some g → w.heap.size ≤ g) ∧ Below w.heap.size w w'

theorem stepIn_append_run {F : Fence} {n : Nat} {P : Program} {ops : Array Oper} {o : Oper} {a : Act} {w w' : World} {K : Act → World → Prop} {Q : Exit → Act → World → Prop} {E : Prop} (hgd : o.guard = none) (s x : Operand) (t tx : TypeId)
    (ho : o.op = .call { callee := .builtin .append, args := #[s, x], argTypes := #[t, tx] }) (v y v' : Value) (hs : a.eval s = v) (hx : a.eval x = y) (hrun : (Builtin.append_ #[t, tx] o.type #[v, y]).run P w = .ok v' w') (h : K (a.put o.dst v') w') :
    if Region.wanted o (yielded ops a.tmps) = true then o.wpIn F n P a w K Q else E := by
  have hw : Region.wanted o (yielded ops a.tmps) = true := by simp [Region.wanted, hgd]
  rw [if_pos hw]
  unfold Oper.wpIn
  refine ⟨?_, ?_⟩
  · simp [Oper.about, ho, resolve, Target.leads, Sem.run_pure]
  · rw [Oper.semAt_plain F _ _ (by rw [ho]; intro c hc'; cases hc')]
    simp [execOp, ho, resolve, invoke, builtin, hs, hx, hrun, Result.andThen]
    exact h
/-- What stands while the runs are gone through. -/
def OP (w2 w3 w5 : World) (R : List Pe) (pre : List Unit) (V : World) : Prop :=
  ∃ (Ao : Option Addr) (co : Nat) (Ro : List Pe), Blk V w3.heap.size 31 #[.slice Ao Ro.length co] ∧ PeS V Ao co Ro ∧ (∀ x ∈ Ro, x ∈ R) ∧ (pre = [] → Ro = []) ∧ (pre ≠ [] → Ro.length = R.length) ∧
    (∀ g, (Value.slice Ao Ro.length co).ownBlock = some g → w2.heap.size ≤ g ∧ g ≠ w3.heap.size ∧ g ≠ w3.heap.size + 1 ∧ (g < w5.heap.size ∨ w5.heap.size + 2 ≤ g)) ∧ Below w2.heap.size w2 V ∧ w5.heap.size ≤ V.heap.size
theorem OP.out {w2 w3 w5 A A' : World} {R : List Pe} {pre : List Unit} (h : OP w2 w3 w5 R pre A) (hz : w2.heap.size ≤ w3.heap.size ∧ w5.heap.size = w3.heap.size + 2) (ho : Out w5.heap.size (w5.heap.size + 2) A A') : OP w2 w3 w5 R pre A' := by
  obtain ⟨Ao, co, Ro, h1, h2, h3, h4, h5, h6, h7, h8⟩ := h
  refine ⟨Ao, co, Ro, (ho.block _ h1.lt (.inl (by omega))).trans h1, Sl.keep h2 ho.size fun g hg => ho.block g (Sl.lt h2 g hg) ((h6 g hg).2.2.2), h3, h4, h5, h6, ?_, Nat.le_trans h8 ho.size⟩
  exact ⟨ho.os.trans h7.os, ho.tape.trans h7.tape, ho.output.trans h7.output, Nat.le_trans h7.size ho.size, fun i hi => (ho.block i (by have := h7.size; omega) (.inl (by omega))).trans (h7.block i hi)⟩
structure OW (w w2 w3 w5 : World) (draw : Int) (R T : List Pe) (A7 : Option Addr) (c7 : Nat) (A8 : Option Addr) (c8 : Nat) : Prop where
  z5 : w2.heap.size ≤ w3.heap.size ∧ w5.heap.size = w3.heap.size + 2
  oi : OI w w2 R T A7 c7 A8 c8
  s7 : PeS w5 A7 c7 R
  b2 : Blk w5 (w3.heap.size + 1) 31 #[.slice A7 R.length c7]
  kl : ∀ i, (i = w3.heap.size + 1 ∨ ∃ a, A7 = some a ∧ i = a.block) → i < w5.heap.size
  op : OP w2 w3 w5 R [] w5
  dr : Blk w2 w.heap.size 24 #[.int .u64 draw]
  b5 : Below w2.heap.size w2 w5
theorem order_world {w W0 wr w2 w3 w5 : World} {draw : Int} {R T : List Pe} {A7 A8 : Option Addr} {c7 c8 n : Nat} (hI : OI W0 wr R T A7 c7 A8 c8) (hB : Below wr.heap.size wr w2) (hown : w3.ownsRow w2.heap.size 35 5 (.slice (some ⟨w2.heap.size, 0, none⟩) 0 n) 0 []) (hg : w2.grownBy w3 none)
    (h0 : Below w.heap.size w W0 ∧ Blk W0 w.heap.size 24 #[.int .u64 draw] ∧ W0.heap.size = w.heap.size + 1) (h5 : w5 = (w3.alloc (.cells #[.slice (some ⟨w2.heap.size, 0, none⟩) 0 n] 31)).alloc (.cells #[.slice A7 R.length c7] 31)) : OW w w2 w3 w5 draw R T A7 c7 A8 c8 := by
  have hI2 := hI.below hB
  have hsl := Sl.of_own hown
  have h23 : w2.heap.size < w3.heap.size := hsl.lt w2.heap.size rfl
  have hz : w5.heap.size = w3.heap.size + 2 := by rw [h5]; simp
  have b23 : Below w2.heap.size w2 w3 := (Below.refl _ w2).grown hg (Nat.le_refl _) (fun g hg => by simp at hg)
  have b35 : Below w3.heap.size w3 w5 := by rw [h5]; exact ((Below.refl _ _).alloc (Nat.le_refl _) _).alloc (by simp) _
  have b25 : Below w2.heap.size w2 w5 := b23.trans (b35.mono b23.size)
  have hw0 : W0.heap.size ≤ w2.heap.size := hI2.bl.size
  have s5 : PeS w5 A7 c7 R := hI2.s7.below b25
  refine ⟨⟨Nat.le_of_lt h23, hz⟩, ⟨hI2.s7, hI2.s8, fun g hg => Nat.le_trans h0.1.size (hI2.o7 g hg), fun g hg => Nat.le_trans h0.1.size (hI2.o8 g hg), hI2.ne, h0.1.trans (hI2.bl.mono h0.1.size)⟩, s5, ?_, ?_, ?_, h0.2.1.below hI2.bl h0.2.1.lt, b25⟩
  · rw [h5]
    have := Blk.new (w3.alloc (.cells #[.slice (some ⟨w2.heap.size, 0, none⟩) 0 n] 31)) 31 #[.slice A7 R.length c7]
    rw [World.size_alloc] at this
    exact this
  · rintro i (rfl | ⟨a, rfl, rfl⟩)
    · omega
    · exact Sl.lt s5 a.block rfl
  · refine ⟨some ⟨w2.heap.size, 0, none⟩, n, [], ?_, ?_, (fun x hx => nomatch hx), fun _ => rfl, fun h => absurd rfl h, fun g hg => ?_, b25, Nat.le_refl _⟩
    · rw [h5]
      exact (Blk.new w3 _ _).alloc _
    · exact Sl.below hsl b35 hsl.lt
    · have : g = w2.heap.size := by simpa [Value.ownBlock] using hg.symm
      subst this
      exact ⟨Nat.le_refl _, by omega, by omega, .inl (by omega)⟩
set_option maxRecDepth 100000 in
set_option maxHeartbeats 8000000 in
theorem order_any (now draw : Int) (xs : List Pe) (A : Option Addr) (c : Nat) (w : World) (hS : PeS w A c xs) (hn : xs.length ≤ 40) (h1 : ∀ x ∈ readyL now xs, ∀ y ∈ readyL now xs, x.f = y.f) (h2 : ∀ x ∈ restL now xs, ∀ y ∈ restL now xs, x.r = y.r) (hd : 0 ≤ draw ∧ draw ≤ 18446744073709551615) :
    Calls Try.prog 10 #[.int .i64 now, .int .u64 draw, .slice A xs.length c] w (OrdP now xs w) := by
  obtain ⟨i0, hi0, hz0, hz1, hz2⟩ := info_parts info_pe
  obtain ⟨n, hn8⟩ : ∃ n : Nat, 8 ≤ n := ⟨8, by omega⟩
  refine (callsIn_wide (n := n)).1 ?_
  have h1n : 1 ≤ n := by omega
  have HS := Lib.hid (And.intro hS (And.intro hn (And.intro h1 (And.intro h2 hd))))
  have hnI : (xs.length : Int) ≤ 40 := by omega
  clear hS hn h1 h2 hd
  refine callsIn_of_wp_marks Try.func10 rfl trivial ?_ rfl
  simp only [Try.ntmps10, List.size_toArray, List.length_cons, List.length_nil, Nat.reduceAdd, Nat.reduceSub, Array.replicate_succ, Array.replicate_zero, List.push_toArray, List.append_toArray, List.nil_append, List.cons_append]
  gi_wp2_with (fail)
  obtain ⟨W0, hW0⟩ : ∃ W0, w.alloc (.cells #[.int .u64 draw] 24) = W0 := ⟨_, rfl⟩
  have H0 := Lib.hid (show Below w.heap.size w W0 ∧ Blk W0 w.heap.size 24 #[.int .u64 draw] ∧ W0.heap.size = w.heap.size + 1 from by rw [← hW0]; exact ⟨(Below.refl _ _).alloc (Nat.le_refl _) _, Blk.new w _ _, by simp⟩)
  rw [hW0]
  clear hW0
  gi_loopg [7, 8, 16] xs.length (fun g v7 v8 v16 wr => ∃ (k : Nat) (A7 : Option Addr) (c7 : Nat) (A8 : Option Addr) (c8 : Nat) (R T : List Pe), v16 = .int .i64 (k : Int) ∧ v7 = .slice A7 R.length c7 ∧ v8 = .slice A8 T.length c8 ∧ Aside (g + k = xs.length) ∧ Aside (R = readyL now (xs.take k) ∧ T = restL now (xs.take k)) ∧ Aside (OI W0 wr R T A7 c7 A8 c8))
  case atStart => exact ⟨0, none, 0, none, 0, [], [], rfl, rfl, rfl, rfl, ⟨by simp [readyL], by simp [restL]⟩, ⟨Sl.nil _ _, Sl.nil _ _, fun g hg => by simp [Value.ownBlock] at hg, fun g hg => by simp [Value.ownBlock] at hg, fun g k hg => by simp [Value.ownBlock] at hg, Below.refl _ _⟩⟩
  case round =>
    obtain ⟨k, A7, c7, A8, c8, R, T, rfl, rfl, rfl, hg, hRT, hI⟩ := hrel
    by_cases hlt : k < xs.length
    · have hltI : (k : Int) < (xs.length : Int) := by omega
      obtain ⟨x, hx⟩ : ∃ x, xs[k]? = some x := ⟨_, List.getElem?_eq_getElem hlt⟩
      obtain ⟨q, rfl, hq, x0, x1, x2, x3, x4⟩ := (HS.out.1.below (H0.out.1.trans (hI.out.bl.mono H0.out.1.size))).cells hx
      have hRl : R.length ≤ 40 := by rw [hRT.out.1]; exact Nat.le_trans (List.length_filter_le _ _) (Nat.le_trans (List.length_take_le _ _) (by have := HS.out.2.1; have := hltI; omega))
      have hTl : T.length ≤ 40 := by rw [hRT.out.2]; exact Nat.le_trans (List.length_filter_le _ _) (Nat.le_trans (List.length_take_le _ _) (by have := HS.out.2.1; have := hltI; omega))
      have HX := Lib.hid hx
      have HI2 := Lib.hid (show OI W0 ((wr.alloc (.cells #[.int .u32 x.a, .string ⟨#[]⟩, .bool false, .int .i64 x.f, .int .i64 x.r] 35)).alloc (.cells #[.int .u32 x.a, .string ⟨#[]⟩, .bool false, .int .i64 x.f, .int .i64 x.r] 35)) R T A7 c7 A8 c8 from (hI.out.below ((Below.refl _ _).alloc (Nat.le_refl _) _)).below ((Below.refl _ _).alloc (Nat.le_refl _) _))
      have HSR := Lib.hid (src_pe (wr.alloc (.cells #[.int .u32 x.a, .string ⟨#[]⟩, .bool false, .int .i64 x.f, .int .i64 x.r] 35)) x)
      rw [World.size_alloc] at HSR
      clear hx hlt hq hI
      by_cases hr : now < x.r
      · have e1 := rest_snoc (now := now) HX.out
        have e2 := ready_snoc (now := now) HX.out
        rw [if_pos hr, ← hRT.out.2] at e1
        rw [if_pos hr, ← hRT.out.1, List.append_nil] at e2
        have HEE := Lib.hid (And.intro e1 e2)
        clear e1 e2
        gi_wp2_with (gi_at_builtin; go_must (refine wpListIn_append_sl _ rfl (.tmp 24) (.tmp 26) 31 31 rfl 35 i0 (.agg #[.int .u32 0, .string ⟨#[]⟩, .bool false, .int .i64 0, .int .i64 0]) 5 48 Try.underlying31 hi0 hz0 hz1 hz2 rfl (.slice A8 T.length c8) T.length (flatV Pe.vs T) rfl HI2.out.s8 _ rfl 1 (flatV Pe.vs [x]) HSR.out (by unfold maxLen; omega) (by omega) ?_); intro v3 w9 hs3 hg3 hv3; obtain ⟨A3, c3, rfl, hc3, hm3⟩ := hs3.shape; have H3 := Lib.hid (And.intro hs3 (And.intro hg3 hv3)); clear hs3 hg3 hv3 hc3 hm3)
        gi_roundg (xs.length - (k + 1))
        case measure => have := hg.out; have := hltI; omega
        case rel => exact ⟨k + 1, A7, c7, A3, c3, R, T ++ [x], by go_num, rfl, by simp, (show xs.length - (k + 1) + (k + 1) = xs.length by have := hltI; omega), ⟨HEE.out.2.symm, HEE.out.1.symm⟩, (HI2.out.swap.push H3.out.1 H3.out.2.1 H3.out.2.2).swap⟩
      · have e1 := rest_snoc (now := now) HX.out
        have e2 := ready_snoc (now := now) HX.out
        rw [if_neg hr, ← hRT.out.2, List.append_nil] at e1
        rw [if_neg hr, ← hRT.out.1] at e2
        have HEE := Lib.hid (And.intro e1 e2)
        clear e1 e2
        gi_wp2_with (gi_at_builtin; go_must (refine wpListIn_append_sl _ rfl (.tmp 28) (.tmp 30) 31 31 rfl 35 i0 (.agg #[.int .u32 0, .string ⟨#[]⟩, .bool false, .int .i64 0, .int .i64 0]) 5 48 Try.underlying31 hi0 hz0 hz1 hz2 rfl (.slice A7 R.length c7) R.length (flatV Pe.vs R) rfl HI2.out.s7 _ rfl 1 (flatV Pe.vs [x]) HSR.out (by unfold maxLen; omega) (by omega) ?_); intro v3 w9 hs3 hg3 hv3; obtain ⟨A3, c3, rfl, hc3, hm3⟩ := hs3.shape; have H3 := Lib.hid (And.intro hs3 (And.intro hg3 hv3)); clear hs3 hg3 hv3 hc3 hm3)
        gi_roundg (xs.length - (k + 1))
        case measure => have := hg.out; have := hltI; omega
        case rel => exact ⟨k + 1, A3, c3, A8, c8, R ++ [x], T, by go_num, by simp, rfl, (show xs.length - (k + 1) + (k + 1) = xs.length by have := hltI; omega), ⟨HEE.out.2.symm, HEE.out.1.symm⟩, HI2.out.push H3.out.1 H3.out.2.1 H3.out.2.2⟩
    · have hltI : ¬ (k : Int) < (xs.length : Int) := by omega
      have hke : k = xs.length := by have := hg.out; omega
      have hR : R = readyL now xs := by have := hRT.out.1; rwa [hke, List.take_length] at this
      have hT : T = restL now xs := by have := hRT.out.2; rwa [hke, List.take_length] at this
      have hRl : R.length ≤ 40 := by rw [hR]; exact Nat.le_trans (List.length_filter_le _ _) HS.out.2.1
      have hTl : T.length ≤ 40 := by rw [hT]; exact Nat.le_trans (List.length_filter_le _ _) HS.out.2.1
      have HC1 := Lib.hid (fun W (hW : Below wr.heap.size wr W) => (callsIn_wide (n := n - 1)).2 (sortEq1_any R A7 c7 W (hI.out.s7.below hW) (even_f (by rw [hR]; exact HS.out.2.2.1)) (by omega)))
      have HC2 := Lib.hid (fun W (hW : Below wr.heap.size wr W) => (callsIn_wide (n := n - 1)).2 (sortEq2_any T A8 c8 W (hI.out.s8.below hW) (even_r (by rw [hT]; exact HS.out.2.2.2.1)) (by omega)))
      have HMK := Lib.hid (fun W : World => run_make_own (P := Try.prog) (w := W) W.heap.size 31 35 i0 (.agg #[.int .u32 0, .string ⟨#[]⟩, .bool false, .int .i64 0, .int .i64 0]) 5 Try.underlying31 hi0 hz0 hz1 .i64 .i64 xs.length (by rw [hz2]; have := HS.out.2.1; omega) (by have := HS.out.2.1; unfold maxLen; omega) (Nat.le_refl _))
      have HR := Lib.hid (fun W => (callsIn_wide (n := n - 1)).2 (runs_any A7 R.length c7 W))
      have HRT := Lib.hid (And.intro hR (And.intro hT (And.intro hRl hTl)))
      have R0 : Below wr.heap.size wr wr := Below.refl _ _
      clear hlt hg hRT hR hT hke hRl hTl
      gi_wp2_with (first
        | (refine ⟨trivial, ?_⟩; gi_at_call 33; with_reducible refine (HC1.out _ R0).mono ?_; rintro e w1 ⟨rfl, hb1⟩; have HB1 := Lib.hid hb1; clear hb1)
        | (refine ⟨trivial, ?_⟩; gi_at_call 33; with_reducible refine (HC2.out _ HB1.out).mono ?_; rintro e w2 ⟨rfl, hb2⟩; have HB2 := Lib.hid (Below.trans HB1.out (Below.mono hb2 HB1.out.size)); obtain ⟨w3, hmk, how3, hgr3⟩ := HMK.out w2; have H3 := Lib.hid (And.intro how3 hgr3); clear hb2 how3 hgr3)
        | (refine ⟨trivial, ?_⟩; gi_at_call 38; with_reducible refine (HR.out _).mono ?_; rintro e w5 ⟨rfl, hw5⟩; have H5 := Lib.hid hw5; clear hw5))
      have hK5 := order_world hI.out HB2.out H3.out.1 H3.out.2 H0.out H5.out
      have HW := Lib.hid hK5
      clear hK5 hI R0
      have hsq := runs1_K R A7 c7 (w3.heap.size + 1) (fun i => i = w3.heap.size + 1 ∨ ∃ a, A7 = some a ∧ i = a.block) w5 HW.out.b2 HW.out.s7 (fun x hx y hy => by rw [HRT.out.1] at hx hy; exact HS.out.2.2.1 x hx y hy) (by have := HRT.out; omega) (.inl rfl) (fun _ a ha => .inr ⟨a, ha, rfl⟩)
      apply rangeKP (gf := 73) (lb := #[.pointer (some ⟨w3.heap.size + 1, 0, none⟩)]) rfl (enters_of Try.func73 (by kernel_rfl) rfl) hsq (fun i hi => HW.out.kl i hi) (Below.refl _ _) (fun _ => rfl)
        (OP w2 w3 w5 R) (fun _ _ _ => False) ?hI (fun _ _ _ _ h => h.elim) ?h0 (fun _ => _)
      case hI => exact fun pre A A' h ho => h.out HW.out.z5 ho
      case h0 => exact HW.out.op
      case hassign =>
        intro l x X K0 hK0
        gi_wp2
        exact hK0
      case hbody =>
        have HZ1 := Lib.hid hz1
        rintro l pre x V hVs ⟨Ao, co, Ro, g1, g2, g3, g4, g5, g6, g7, g8⟩ hpre
        have hR0 : R.length ≠ 0 := fun h => by
          unfold oneL at hpre
          rw [if_pos h] at hpre
          have := hpre.length_le
          simp at this
        have hpn : pre = [] := by
          unfold oneL at hpre
          rw [if_neg hR0] at hpre
          have := hpre.length_le
          simp at this
          exact this
        subst hpn
        have hRo := g4 rfl
        subst hRo
        have hs7 : PeS V A7 c7 R := HW.out.oi.s7.below g7
        obtain ⟨q, cap, hv, hq, hqc, hqm, _⟩ := Sl.form hs7 (by omega)
        injection hv with hv _ hv2
        subst hv hv2
        have cd : V.cell? ⟨w.heap.size, 0, none⟩ = some (.int .u64 draw) := (HW.out.dr.below g7 HW.out.dr.lt).cell 0
        have co0 := g1.cell 0
        have fo0 := g1.frozen 0
        have hRl : (R.length : Int) ≤ 40 := by have := HRT.out; omega
        have hRp : (0 : Int) < (R.length : Int) := by omega
        have hRn : ¬ (R.length : Int) = 0 := by omega
        have HG := Lib.hid (And.intro g1 (And.intro g2 (And.intro g6 (And.intro g7 (And.intro g8 (And.intro hVs (And.intro hs7 (And.intro hq (And.intro hqc (And.intro hqm hR0))))))))))
        obtain ⟨fr, hfr⟩ : ∃ fr : Nat, draw % (R.length : Int) = (fr : Int) := ⟨(draw % (R.length : Int)).toNat, by have := Int.emod_nonneg draw hRn; omega⟩
        have hfl : fr < R.length := by have := Int.emod_lt_of_pos draw hRp; omega
        have hfI : (fr : Int) < (R.length : Int) := by omega
        have hd0 := HS.out.2.2.2.2.1
        have hd1 := HS.out.2.2.2.2.2
        -- the first append: what stands from fr on
        obtain ⟨v1, w1, hrun1, hs1, hr1, hv1⟩ := run_append_sl (P := Try.prog) V.drew 31 31 31 35 i0 (.agg #[.int .u32 0, .string ⟨#[]⟩, .bool false, .int .i64 0, .int .i64 0]) 5 48 Try.underlying31 hi0 hz0 hz1 hz2 rfl (.slice Ao 0 co) 0 [] (Sl.drew g2) (.slice (some ⟨q, fr * 5, none⟩) (R.length - fr) (c7 - fr)) (R.length - fr) (flatV Pe.vs ((R.drop fr).take (R.length - fr)))
          (src_reads Try.underlying31 (reads_part (w := V.drew) (show PeS V.drew (some ⟨q, 0, none⟩) c7 R from Sl.drew hs7) (by omega)) (pe_one _)) (by unfold maxLen; omega) (by omega)
        obtain ⟨A1, k1, rfl, hk1, hm1⟩ := hs1.shape
        have hf1 : (R.drop fr).take (R.length - fr) = R.drop fr := List.take_of_length_le (by rw [List.length_drop]; omega)
        rw [hf1, List.nil_append] at hs1
        rw [Nat.zero_add] at hs1 hrun1 hv1
        have hz := HW.out.z5
        have hqw : q < w2.heap.size := Sl.lt HW.out.oi.s7 q rfl
        have hz1 := hr1.size
        have hVd : V.drew.heap.size = V.heap.size := rfl
        have hB1 : Blk w1 w3.heap.size 31 #[.slice Ao 0 co] := g1.drew.grown hr1 (fun e => (g6 _ e.symm).2.1 rfl)
        have e1 := hB1.cell 0
        have f1 := hB1.frozen 0
        have ho1 : ∀ g, (Value.slice A1 (R.length - fr) k1).ownBlock = some g → w2.heap.size ≤ g ∧ g ≠ w3.heap.size ∧ g ≠ w3.heap.size + 1 ∧ (g < w5.heap.size ∨ w5.heap.size + 2 ≤ g) := fun g hg => by
          rcases hv1 with e | e
          · exact g6 g (e ▸ hg)
          · rw [e] at hg
            injection hg with hg
            omega
        have hR1 : PeS w1 (some ⟨q, 0, none⟩) c7 R := Sl.keep hs7 hz1 fun g hg => by
          have hgq : q = g := by simpa [Value.ownBlock] using hg
          subst hgq
          exact hr1.block q (by omega) (fun e => by have := (g6 q e.symm).1; omega)
        -- the second append: what stands up to fr
        have hs1b : Sl ((w1.setCell ⟨w3.heap.size, 0, none⟩ (.slice A1 (R.length - fr) k1)).drew) 5 (.slice A1 (R.length - fr) k1) (R.length - fr) (flatV Pe.vs (R.drop fr)) := Sl.drew (hs1.far (p := ⟨w3.heap.size, 0, none⟩) (fun g hg => (ho1 g hg).2.1) _)
        have hR1b : PeS ((w1.setCell ⟨w3.heap.size, 0, none⟩ (.slice A1 (R.length - fr) k1)).drew) (some ⟨q, 0, none⟩) c7 R := Sl.drew (Sl.far hR1 (p := ⟨w3.heap.size, 0, none⟩) (fun g hg => by
          have hgq : q = g := by simpa [Value.ownBlock] using hg
          show g ≠ w3.heap.size
          omega) _)
        obtain ⟨v2, w2a, hrun2, hs2, hr2, hv2⟩ := run_append_sl (P := Try.prog) _ 31 31 31 35 i0 (.agg #[.int .u32 0, .string ⟨#[]⟩, .bool false, .int .i64 0, .int .i64 0]) 5 48 Try.underlying31 hi0 hz0 HZ1.out hz2 rfl _ _ _ hs1b (.slice (some ⟨q, 0, none⟩) fr c7) fr (flatV Pe.vs ((R.drop 0).take fr))
          (src_reads Try.underlying31 (reads_part (fr := 0) hR1b (by omega)) (pe_one _)) (by unfold maxLen; omega) (by omega)
        obtain ⟨A2, k2, rfl, hk2, hm2⟩ := hs2.shape
        have hlen : R.length - fr + fr = R.length := by omega
        rw [hlen] at hs2 hrun2 hv2
        have hB2 : Blk w2a w3.heap.size 31 #[.slice A1 (R.length - fr) k1] := by
          have h := (hB1.set_ 0 (.slice A1 (R.length - fr) k1)).drew.grown hr2 (fun e => (ho1 _ e.symm).2.1 rfl)
          simpa using h
        have e2 := hB2.cell 0
        have f2 := hB2.frozen 0
        have hcI : (R.length : Int) ≤ (c7 : Int) := by omega
        have hcN : R.length ≤ c7 := hqc
        have hfc : (fr : Int) < (c7 : Int) := by omega
        have hfc2 : fr < c7 := by omega
        have hcf : ¬ c7 = fr := by omega
        have hcz : ¬ c7 = 0 := by omega
        have hfl2 : (fr : Int) ≤ (R.length : Int) := by omega
        have hc63 : (c7 : Int) ≤ 9223372036854775807 := by unfold maxLen at hqm; omega
        have HEND := Lib.hid (And.intro hr1 (And.intro hr2 (And.intro hs2 (And.intro hv2 (And.intro ho1 (And.intro hB2 (And.intro hz hqw)))))))
        clear g1 g2 g3 g4 g5 g6 g7 g8 hVs hs7 hq hqc hqm hR0 hpre hsq hs1 hr1 hv1 hk1 hm1 hf1 hB1 ho1 hR1 hs1b hR1b hs2 hr2 hv2 hk2 hm2 hlen hB2 hz hqw hz1 hVd
        gi_wp2_with (fail)
        refine region_still (by kernel_rfl) [⟨0, 49, .slice Ao 0 co⟩, ⟨1, 50, .slice (some ⟨q, 0, none⟩) R.length c7⟩, ⟨2, 51, .int .i64 (fr : Int)⟩, ⟨3, 52, .slice (some ⟨q, fr * 5, none⟩) (R.length - fr) (c7 - fr)⟩]
          2 #[true, true, true, true, false, false] ?hL ?hfin ?hchk ?h0 _ rfl ?hp ?H
        case hL => simp [apartL]
        case hfin => simp
        case hchk => kernel_rfl
        case h0 => rfl
        case hp =>
          simp only [fillS, List.foldl, Act.put]
          intro r hr
          simp only [List.mem_cons, List.not_mem_nil, or_false] at hr
          rcases hr with rfl | rfl | rfl | rfl
          all_goals
            refine ⟨_, rfl, rfl, by simp, by simp, ?_, rfl⟩
            go_simp
            try rfl
        case H =>
          simp (decide := true) only [fillS, List.foldl, Act.put, ite_true]
          refine wpAnyIn_ready (rs := [4]) (by kernel_rfl) (by simp) ?_
          refine AllReadyIn.cons rfl (fun K hK => ?_) AllReadyIn.nil
          refine stepIn_append_run rfl (.tmp 49) (.tmp 52) 31 31 rfl (.slice Ao 0 co) (.slice (some ⟨q, fr * 5, none⟩) (R.length - fr) (c7 - fr)) (.slice A1 (R.length - fr) k1) rfl rfl hrun1 ?_
          refine hK _ _ ?_
          clear hK K
          refine wpAnyIn_ready (rs := [5]) (by kernel_rfl) (by simp) ?_
          refine AllReadyIn.cons rfl (fun K hK => ?_) AllReadyIn.nil
          go_simp
          refine hK _ _ ?_
          clear hK K
          refine wpAnyIn_done (by kernel_rfl) ?_ _
          have e1s : (w1.setCell ⟨w3.heap.size, 0, none⟩ (.slice A1 (R.length - fr) k1)).cell? ⟨w3.heap.size, 0, none⟩ = some (.slice A1 (R.length - fr) k1) := World.cell?_setCell_same w1 _ _ e1
          clear e1 f1 co0 fo0 hrun1
          obtain ⟨W6, hW6⟩ : ∃ W6, w1.setCell ⟨w3.heap.size, 0, none⟩ (.slice A1 (R.length - fr) k1) = W6 := ⟨_, rfl⟩
          rw [hW6] at hrun2 e1s ⊢
          have HW6 := Lib.hid hW6
          clear hW6
          gi_wp2_with (fail)
          refine region_still (by kernel_rfl) [⟨0, 54, .slice A1 (R.length - fr) k1⟩, ⟨1, 55, .slice (some ⟨q, 0, none⟩) R.length c7⟩, ⟨2, 56, .int .i64 (fr : Int)⟩, ⟨3, 57, .slice (some ⟨q, 0, none⟩) fr c7⟩]
            2 #[true, true, true, true, false, false] ?hL ?hfin ?hchk ?h0 _ rfl ?hp ?H
          case hL => simp [apartL]
          case hfin => simp
          case hchk => kernel_rfl
          case h0 => rfl
          case hp =>
            simp only [fillS, List.foldl, Act.put]
            intro r hr
            simp only [List.mem_cons, List.not_mem_nil, or_false] at hr
            rcases hr with rfl | rfl | rfl | rfl
            all_goals
              refine ⟨_, rfl, rfl, by simp, by simp, ?_, rfl⟩
              go_simp
              try first | rfl | (intro hlt; exact absurd hlt (by omega))
          case H =>
            simp (decide := true) only [fillS, List.foldl, Act.put, ite_true]
            refine wpAnyIn_ready (rs := [4]) (by kernel_rfl) (by simp) ?_
            refine AllReadyIn.cons rfl (fun K hK => ?_) AllReadyIn.nil
            refine stepIn_append_run rfl (.tmp 54) (.tmp 57) 31 31 rfl (.slice A1 (R.length - fr) k1) (.slice (some ⟨q, 0, none⟩) fr c7) (.slice A2 R.length k2) rfl rfl hrun2 ?_
            refine hK _ _ ?_
            clear hK K
            refine wpAnyIn_ready (rs := [5]) (by kernel_rfl) (by simp) ?_
            refine AllReadyIn.cons rfl (fun K hK => ?_) AllReadyIn.nil
            go_simp
            refine hK _ _ ?_
            clear hK K
            refine wpAnyIn_done (by kernel_rfl) ?_ _
            gi_wp2_with (fail)
            show KeepS _ V _ ∧ OP w2 w3 w5 R [x] _
            obtain ⟨hr1, hr2, hs2, hv2, ho1, hB2, hz, hqw⟩ := HEND.out
            obtain ⟨g1, g2, g6, g7, g8, hVs, hs7, hq, hqc, hqm, hR0⟩ := HG.out
            have notS : ∀ g, (w2.heap.size ≤ g ∧ g ≠ w3.heap.size ∧ g ≠ w3.heap.size + 1 ∧ (g < w5.heap.size ∨ w5.heap.size + 2 ≤ g)) → ¬ ((w5.heap.size ≤ g ∧ g < w5.heap.size + 2) ∨ g = w3.heap.size + 1 ∨ ∃ a, (some ⟨q, 0, none⟩ : Option Addr) = some a ∧ g = a.block) := by
              rintro g ⟨h1, h2, h3, h4⟩ (h | h | ⟨a, ha, h⟩)
              · omega
              · omega
              · injection ha with ha
                subst ha
                simp only at h
                omega
            have notB : ¬ ((w5.heap.size ≤ w3.heap.size ∧ w3.heap.size < w5.heap.size + 2) ∨ w3.heap.size = w3.heap.size + 1 ∨ ∃ a, (some ⟨q, 0, none⟩ : Option Addr) = some a ∧ w3.heap.size = a.block) := by
              rintro (h | h | ⟨a, ha, h⟩)
              · omega
              · omega
              · injection ha with ha
                subst ha
                simp only at h
                omega
            have hz1 := hr1.size
            have hz2 := hr2.size
            have hd1 : V.drew.heap.size = V.heap.size := rfl
            have hd2 : ((w1.setCell ⟨w3.heap.size, 0, none⟩ (.slice A1 (R.length - fr) k1)).drew).heap.size = w1.heap.size := by show (w1.setCell _ _).heap.size = _; simp [World.setCell]
            have ho2 : ∀ g, (Value.slice A2 R.length k2).ownBlock = some g → w2.heap.size ≤ g ∧ g ≠ w3.heap.size ∧ g ≠ w3.heap.size + 1 ∧ (g < w5.heap.size ∨ w5.heap.size + 2 ≤ g) := fun g hg => by
              rcases hv2 with e | e
              · exact ho1 g (e ▸ hg)
              · rw [e] at hg
                injection hg with hg
                omega
            have hll : (R.drop fr ++ R.take fr).length = R.length := by rw [List.length_append, List.length_drop, List.length_take]; omega
            refine ⟨((((KeepS.refl _ V).drew.grown hr1 fun i hi => notS i (g6 i hi)).trans (.cell _ notB)).drew.grown hr2 fun i hi => notS i (ho1 i hi)).trans (.cell _ notB), A2, k2, R.drop fr ++ R.take fr, ?_, ?_, fun y hy => ?_, (fun h => nomatch h), (fun _ => hll), ?_, ?_, ?_⟩
            · rw [hll]
              have h := hB2.set_ 0 (.slice A2 R.length k2)
              simpa using h
            · unfold PeS
              rw [hll, flatV_append]
              rw [List.drop_zero] at hs2
              exact hs2.far (p := ⟨w3.heap.size, 0, none⟩) (fun g hg => (ho2 g hg).2.1) _
            · rcases List.mem_append.1 hy with h | h
              · exact List.mem_of_mem_drop h
              · exact List.mem_of_mem_take h
            · rw [hll]
              exact ho2
            · exact (((g7.drew.grown hr1 (by have := g7.size; omega) fun g hg => (g6 g hg).1).setCell (p := ⟨w3.heap.size, 0, none⟩) hz.1 _).drew.grown hr2 (by have := g7.size; omega) fun g hg => (ho1 g hg).1).setCell (p := ⟨w3.heap.size, 0, none⟩) hz.1 _
            · have : (w2a.setCell ⟨w3.heap.size, 0, none⟩ (.slice A2 R.length k2)).heap.size = w2a.heap.size := by simp [World.setCell]
              omega
      case hdone =>
        rintro D V hD ⟨Ao, co, Ro, g1, g2, g3, g4, g5, g6, g7, g8⟩ hK0
        have hRo : Ro.length = R.length := by
          by_cases hx : R.length = 0
          · rw [g4 (by unfold oneL; rw [if_pos hx]), hx]; rfl
          · exact g5 (by unfold oneL; rw [if_neg hx]; simp)
        have hRT := HRT.out
        have hs8 : PeS V A8 c8 T := HW.out.oi.s8.below g7
        have HSL := Lib.hid (show Sl V 5 (.slice Ao Ro.length co) Ro.length (flatV Pe.vs Ro) from g2)
        have HSR := Lib.hid (src_own (P := Try.prog) Try.underlying31 hs8 (pe_one T))
        have c0 := g1.cell 0
        have hRoI : Ro.length ≤ 40 := by omega
        have hTI : T.length ≤ 40 := hRT.2.2.2
        have HG := Lib.hid (And.intro g1 (And.intro g3 (And.intro g6 (And.intro g7 (And.intro g8 (And.intro hD (And.intro hK0 hRo)))))))
        clear g1 g2 g3 g4 g5 g6 g7 g8 hD hK0 hRo hRT hs8 hsq
        gi_wp2_with (gi_at_builtin; go_must (refine wpListIn_append_sl _ rfl (.tmp 59) (.tmp 60) 31 31 rfl 35 i0 (.agg #[.int .u32 0, .string ⟨#[]⟩, .bool false, .int .i64 0, .int .i64 0]) 5 48 Try.underlying31 hi0 hz0 hz1 hz2 rfl (.slice Ao Ro.length co) Ro.length (flatV Pe.vs Ro) rfl HSL.out _ rfl T.length (flatV Pe.vs T) HSR.out (by unfold maxLen; omega) (by omega) ?_); intro v3 w9 hs3 hg3 hv3; obtain ⟨A3, c3, rfl, hc3, hm3⟩ := hs3.shape; have H9 := Lib.hid (And.intro hs3 (And.intro hg3 hv3)); clear hs3 hg3 hv3 hc3 hm3)
        obtain ⟨hs3, hg3, hv3⟩ := H9.out
        obtain ⟨g1, g3, g6, g7, g8, hD, hK0, hRo⟩ := HG.out
        have hz9 := hg3.size
        have hwD : w.heap.size ≤ D := by have := HW.out.oi.bl.size; have := HW.out.z5; omega
        have hDV : D < V.heap.size := (Array.getElem?_eq_some_iff.1 hK0).1
        have hK9 : w9.heap[D]? = some (.deferred (some [])) := (hg3.block D hDV (fun e => by have := g6 D e.symm; omega)).trans hK0
        have hb9 : Below w.heap.size w w9 := (HW.out.oi.bl.trans (g7.mono HW.out.oi.bl.size)).grown hg3 (Nat.le_trans HW.out.oi.bl.size g7.size) (fun g hg => Nat.le_trans HW.out.oi.bl.size (g6 g hg).1)
        have HKB : Below w.heap.size w (w9.putObj D (.deferred none)) := hb9.trans (belowK_b (w := w) (Nat.le_refl _) w9 D _ _ hwD hK9 rfl rfl)
        have hown : ∀ g, (Value.slice A3 (Ro.length + T.length) c3).ownBlock = some g → w.heap.size ≤ g ∧ g ≠ D := fun g hg => by
          rcases hv3 with e | e
          · rw [e] at hg
            have := g6 g hg
            have := HW.out.oi.bl.size
            exact ⟨by omega, by omega⟩
          · rw [e] at hg
            injection hg with hg
            exact ⟨by have := HW.out.oi.bl.size; have := g7.size; omega, by omega⟩
        have hlen : (Ro ++ restL now xs).length = Ro.length + T.length := by rw [List.length_append, HRT.out.2.1]
        refine ⟨by simp, .inl ⟨_, _, rfl, run_takeDeferred hK9, _, results_tmp (t := 6) rfl _ _ _, A3, c3, Ro, ?_, ?_, fun x hx => HRT.out.1 ▸ g3 x hx, by rw [hRo, HRT.out.1], fun g hg => ?_, HKB⟩⟩
        · rw [hlen]; rfl
        · unfold PeS
          rw [hlen, flatV_append, ← HRT.out.2.1]
          exact Sl.keep hs3 (by simp) fun g hg => World.putObj_heap_other (hown g hg).2
        · rw [hlen] at hg
          exact (hown g hg).1
      case hstop =>
        rintro D c pre V hD _ h _
        exact h.elim
end Go.Proofs.Ytfipacfompihkaa
