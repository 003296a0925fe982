/- Maps from numbers of 32 bits to slices that the call owns; a queue in memory; plain laws of what waits. -/
import Derived.Test.YtkdfbmbccopchaaIdx
import Derived.Test.YtkdfbmbccopchaaDeleteU
import Derived.Maps.OwnSet
import Derived.Maps.Views
import Derived.Maps.OwnOps
import Derived.Maps.Own
namespace Go.Proofs.Ytkdfbmbccopchaa
open Go.RowKit Go.Lib

/-! Maps -/
def nilS : Value := .slice none 0 0
/-- Each value of the map as it is. -/
def R0 (v : Value) : Option (DataW Value × List MemPlace) := some (.held v, [])
def lit32 (a : Int) : Lit := .int .u32 a
def upd (F : Int → Value) (a : Int) (v : Value) : Int → Value := fun b => if b = a then v else F b
/-- A map that tells what F tells. -/
def MapF (w : World) (mb n : Nat) (F : Int → Value) : Prop :=
  ∃ D : DataW Value, w.ownsMap Try.prog 28 R0 mb n D ∧ ∀ a : Int, D.atKey (lit32 a) (.held nilS) = .held (F a)
theorem wf32 {a : Int} (h0 : 0 ≤ a) (h1 : a ≤ 4294967295) : (Lit.int .u32 a).wf = true := by
  simp [Lit.wf, IntKind.min, IntKind.max, IntKind.signed, IntKind.bits]
  omega
set_option maxRecDepth 100000 in
theorem keyed32 : Maps.Keyed Try.prog 28 := Maps.int_keyed Try.underlying28
set_option maxRecDepth 100000 in
theorem zero_is (w : World) : (zeroValue 62).run Try.prog w = .ok nilS w := by rfl
section
variable {w w' : World} {mb n : Nat} {F : Int → Value}
set_option maxRecDepth 100000 in
theorem MapF.look (h : MapF w mb n F) {a : Int} (h0 : 0 ≤ a) (h1 : a ≤ 4294967295) : (Instr.lookup 90 (.map (some mb)) (.int .u32 a) false).run Try.prog w = .ok (F a) w := by
  obtain ⟨D, hD, hF⟩ := h
  obtain ⟨v, ps, hrun, hv⟩ := hD.lookup keyed32 Try.underlying90 (zero_is w) (zd := .held nilS) (zp := []) rfl (Maps.keyOf_int_mk Try.underlying28 (wf32 h0 h1))
  rw [show D.atKey (.int .u32 a) (.held nilS) = .held (F a) from hF a] at hv
  have : v = F a := by
    unfold R0 at hv
    injection hv with hv
    injection hv with hv _
    injection hv
  rw [← this]
  exact hrun
theorem MapF.lt (h : MapF w mb n F) : mb < w.heap.size := by
  obtain ⟨D, hD, _⟩ := h
  exact hD.lt
theorem MapF.drew (h : MapF w mb n F) : MapF w.drew mb n F := h
theorem MapF.drewN (h : MapF w mb n F) (k : Nat) : MapF (w.drewN k) mb n F := h
theorem MapF.keepK {K : Nat → Prop} (h : MapF w mb n F) (hk : KeepK K w w') (hg : K mb) : MapF w' mb n F := by
  obtain ⟨D, ⟨es, clock, hb, r⟩, hF⟩ := h
  exact ⟨D, ⟨es, clock, (hk.block mb hg).trans hb, r⟩, hF⟩
theorem keep_turned (h : w.mapTurned w' mb) : KeepK (fun k => k < w.heap.size ∧ k ≠ mb) w w' := by
  have hg := h.grown
  exact ⟨hg.os, hg.tape, hg.output, hg.size, fun i hi => hg.block i hi.1 (fun e => hi.2 (Option.some.inj e))⟩
set_option maxRecDepth 100000 in
theorem MapF.put (h : MapF w mb n F) (hn : n < maxLen) {a : Int} (h0 : 0 ≤ a) (h1 : a ≤ 4294967295) (v : Value) :
    ∃ w', (Instr.mapUpdate 90 (.map (some mb)) (.int .u32 a) v).run Try.prog w = .ok () w' ∧ MapF w' mb (n + 1) (upd F a v) ∧ w.mapTurned w' mb := by
  obtain ⟨D, hD, hF⟩ := h
  obtain ⟨w', hrun, hD', ht⟩ := hD.store keyed32 Try.underlying90 hn (d := .held v) (ps := []) (Maps.keyOf_int_mk Try.underlying28 (wf32 h0 h1)) rfl
  refine ⟨w', hrun, ⟨_, hD', fun b => ?_⟩, ht⟩
  unfold upd
  by_cases e : b = a
  · subst e
    rw [if_pos rfl]
    exact Maps.atKey_put_same (k := lit32 b) hD.isMap (show WideAt.IsKeyLit (lit32 b) from trivial) _ _
  · rw [if_neg e, ← hF b]
    exact Maps.atKey_put_other (fun he => e (by unfold lit32 at he; injection he)) _ _
set_option maxRecDepth 100000 in
theorem MapF.del (h : MapF w mb n F) {a : Int} (h0 : 0 ≤ a) (h1 : a ≤ 4294967295) (ty : TypeId) :
    ∃ w', (Builtin.delete_ #[90, 28] ty #[.map (some mb), .int .u32 a]).run Try.prog w = .ok (.tuple #[]) w' ∧ MapF w' mb n (upd F a nilS) ∧ w.mapTurned w' mb := by
  obtain ⟨D, hD, hF⟩ := h
  obtain ⟨w', hrun, hD', ht⟩ := hD.drop keyed32 Try.underlying90 (Maps.keyOf_int_mk Try.underlying28 (wf32 h0 h1)) ty
  refine ⟨w', hrun, ⟨_, hD', fun b => ?_⟩, ht⟩
  unfold upd
  by_cases e : b = a
  · subst e
    rw [if_pos rfl]
    exact Maps.atKey_del_same _
  · rw [if_neg e, ← hF b]
    exact Maps.atKey_del_other (fun he => e (by unfold lit32 at he; injection he)) _
theorem MapF.new (w : World) : MapF (w.alloc (.map #[] 0)) w.heap.size 0 (fun _ => nilS) :=
  ⟨_, World.ownsMap_made w _ _ _, fun _ => rfl⟩
end

/-! What waits -/
abbrev Cl := List (Int × List Int)
def manyC (cl : Cl) : Nat := (cl.map fun p => p.2.length).sum
def getC : Cl → Int → List Int
  | [], _ => []
  | p :: t, a => if p.1 = a then p.2 else getC t a
def addC : Cl → Int → Int → Cl
  | [], a, id => [(a, [id])]
  | p :: t, a, id => if p.1 = a then (p.1, p.2 ++ [id]) :: t else p :: addC t a id
def dropC (cl : Cl) (a : Int) : Cl := cl.filter fun p => decide (p.1 ≠ a)
structure OkC (cl : Cl) : Prop where
  nodup : (cl.map Prod.fst).Nodup
  ok : ∀ p ∈ cl, 0 ≤ p.1 ∧ p.1 ≤ 4294967295 ∧ p.2 ≠ []
theorem getC_none {cl : Cl} {a : Int} (h : ∀ p ∈ cl, p.1 ≠ a) : getC cl a = [] := by
  induction cl with
  | nil => rfl
  | cons p t ih =>
    unfold getC
    rw [if_neg (h p (by simp))]
    exact ih fun q hq => h q (by simp [hq])
theorem getC_mem {cl : Cl} (hn : (cl.map Prod.fst).Nodup) {p : Int × List Int} (hp : p ∈ cl) : getC cl p.1 = p.2 := by
  induction cl with
  | nil => cases hp
  | cons q t ih =>
    unfold getC
    rw [List.map_cons, List.nodup_cons] at hn
    rcases List.mem_cons.1 hp with rfl | hp
    · rw [if_pos rfl]
    · rw [if_neg (fun e => hn.1 (by rw [e]; exact List.mem_map.2 ⟨p, hp, rfl⟩))]
      exact ih hn.2 hp
theorem getC_has {cl : Cl} (h : OkC cl) (a : Int) : (∃ p ∈ cl, p.1 = a ∧ getC cl a = p.2 ∧ getC cl a ≠ []) ∨ ((∀ p ∈ cl, p.1 ≠ a) ∧ getC cl a = []) := by
  by_cases hh : ∃ p ∈ cl, p.1 = a
  · obtain ⟨p, hp, rfl⟩ := hh
    have := getC_mem h.nodup hp
    left
    exact ⟨p, hp, rfl, this, by rw [this]; exact (h.ok p hp).2.2⟩
  · right
    have : ∀ p ∈ cl, p.1 ≠ a := fun p hp e => hh ⟨p, hp, e⟩
    exact ⟨this, getC_none this⟩
theorem manyC_cons (p : Int × List Int) (t : Cl) : manyC (p :: t) = p.2.length + manyC t := by simp [manyC]
theorem manyC_append (s t : Cl) : manyC (s ++ t) = manyC s + manyC t := by simp [manyC]
theorem addC_new : ∀ {cl : Cl} {a id : Int}, (∀ p ∈ cl, p.1 ≠ a) → addC cl a id = cl ++ [(a, [id])]
  | [], _, _, _ => rfl
  | p :: t, a, id, h => by
    unfold addC
    rw [if_neg (h p (by simp)), addC_new fun q hq => h q (by simp [hq])]
    rfl
theorem addC_keys : ∀ {cl : Cl} {a id : Int}, (∃ p ∈ cl, p.1 = a) → (addC cl a id).map Prod.fst = cl.map Prod.fst
  | [], _, _, h => by obtain ⟨p, hp, _⟩ := h; cases hp
  | p :: t, a, id, h => by
    unfold addC
    by_cases e : p.1 = a
    · rw [if_pos e]; rfl
    · rw [if_neg e]
      obtain ⟨q, hq, hqa⟩ := h
      rcases List.mem_cons.1 hq with rfl | hq
      · exact absurd hqa e
      · rw [List.map_cons, List.map_cons, addC_keys ⟨q, hq, hqa⟩]
theorem addC_get : ∀ (cl : Cl) (a id b : Int), getC (addC cl a id) b = if b = a then getC cl a ++ [id] else getC cl b
  | [], a, id, b => by
    unfold addC getC
    by_cases e : b = a
    · rw [if_pos e.symm, if_pos e]; rfl
    · rw [if_neg (fun h => e h.symm), if_neg e]; rfl
  | p :: t, a, id, b => by
    unfold addC
    by_cases e : p.1 = a
    · rw [if_pos e]
      unfold getC
      rw [if_pos e]
      by_cases eb : b = a
      · rw [if_pos eb, if_pos (by rw [eb]; exact e)]
      · rw [if_neg eb, if_neg (fun h => eb (h.symm.trans e)), if_neg (fun h => eb (h.symm.trans e))]
    · rw [if_neg e]
      have ih := addC_get t a id b
      conv => lhs; unfold getC
      by_cases eb : p.1 = b
      · rw [if_pos eb, if_neg (fun h => e (eb.trans h))]
        conv => rhs; unfold getC
        rw [if_pos eb]
      · rw [if_neg eb, ih]
        by_cases ea : b = a
        · rw [if_pos ea, if_pos ea]
          conv => rhs; unfold getC
          rw [if_neg e]
        · rw [if_neg ea, if_neg ea]
          conv => rhs; unfold getC
          rw [if_neg eb]
theorem addC_many : ∀ (cl : Cl) (a id : Int), manyC (addC cl a id) = manyC cl + 1
  | [], _, _ => by simp [addC, manyC]
  | p :: t, a, id => by
    unfold addC
    split
    · rw [manyC_cons, manyC_cons]; simp; omega
    · rw [manyC_cons, manyC_cons, addC_many t a id]; omega
theorem addC_mem : ∀ {cl : Cl} {a id : Int} {q : Int × List Int}, q ∈ addC cl a id → (q.1 = a ∧ q.2 ≠ []) ∨ q ∈ cl
  | [], a, id, q, h => by
    rw [List.mem_singleton.1 h]; left; simp
  | p :: t, a, id, q, h => by
    unfold addC at h
    split at h
    · rename_i e
      rcases List.mem_cons.1 h with rfl | h
      · left; exact ⟨e, by simp⟩
      · right; simp [h]
    · rcases List.mem_cons.1 h with rfl | h
      · right; simp
      · rcases addC_mem h with h | h
        · exact .inl h
        · right; simp [h]
theorem OkC.add {cl : Cl} (h : OkC cl) {a : Int} (id : Int) (h0 : 0 ≤ a) (h1 : a ≤ 4294967295) : OkC (addC cl a id) := by
  refine ⟨?_, fun q hq => ?_⟩
  · by_cases hh : ∃ p ∈ cl, p.1 = a
    · rw [addC_keys hh]; exact h.nodup
    · have hk : ∀ p ∈ cl, p.1 ≠ a := fun p hp e => hh ⟨p, hp, e⟩
      rw [addC_new hk, List.map_append, List.nodup_append]
      refine ⟨h.nodup, by simp, fun x hx y hy => ?_⟩
      obtain ⟨p, hp, rfl⟩ := List.mem_map.1 hx
      have : y = a := by simpa using hy
      rw [this]
      exact hk p hp
  · rcases addC_mem hq with ⟨e, hne⟩ | hq
    · rw [e]; exact ⟨h0, h1, hne⟩
    · exact h.ok q hq
theorem dropC_get : ∀ (cl : Cl) (a b : Int), getC (dropC cl a) b = if b = a then [] else getC cl b
  | [], a, b => by simp [dropC, getC]
  | p :: t, a, b => by
    have ih := dropC_get t a b
    unfold dropC at ih ⊢
    rw [List.filter_cons]
    by_cases e : p.1 = a
    · rw [if_neg (by simp [e]), ih]
      by_cases eb : b = a
      · rw [if_pos eb, if_pos eb]
      · rw [if_neg eb, if_neg eb]
        conv => rhs; unfold getC
        rw [if_neg (fun h => eb (h.symm.trans e))]
    · rw [if_pos (by simpa using e)]
      conv => lhs; unfold getC
      by_cases eb : p.1 = b
      · rw [if_pos eb, if_neg (fun h => e (eb.trans h))]
        conv => rhs; unfold getC
        rw [if_pos eb]
      · rw [if_neg eb, ih]
        by_cases ea : b = a
        · rw [if_pos ea, if_pos ea]
        · rw [if_neg ea, if_neg ea]
          conv => rhs; unfold getC
          rw [if_neg eb]
theorem OkC.drop {cl : Cl} (h : OkC cl) (a : Int) : OkC (dropC cl a) :=
  ⟨h.nodup.sublist ((List.filter_sublist (l := cl)).map _), fun q hq => h.ok q (List.mem_filter.1 hq).1⟩
theorem OkC.tail {p : Int × List Int} {t : Cl} (h : OkC (p :: t)) : OkC t := ⟨(List.nodup_cons.1 h.nodup).2, fun q hq => h.ok q (by simp [hq])⟩
theorem OkC.turn {a x : Int} {l : List Int} {t : Cl} (h : OkC ((a, x :: l) :: t)) (hl : l ≠ []) : OkC (t ++ [(a, l)]) := by
  have hn := List.nodup_cons.1 h.nodup
  have ha := h.ok (a, x :: l) (by simp)
  refine ⟨?_, fun q hq => ?_⟩
  · rw [List.map_append, List.nodup_append]
    refine ⟨hn.2, by simp, fun y hy z hz => ?_⟩
    have : z = a := by simpa using hz
    rw [this]
    intro e
    exact hn.1 (by rw [← e]; exact hy)
  · rcases List.mem_append.1 hq with hq | hq
    · exact h.ok q (by simp [hq])
    · rw [List.mem_singleton.1 hq]; exact ⟨ha.1, ha.2.1, hl⟩
theorem getC_append (s : Cl) (a : Int) (l : List Int) (b : Int) (h : ∀ p ∈ s, p.1 ≠ a) : getC (s ++ [(a, l)]) b = if b = a then l else getC s b := by
  induction s with
  | nil =>
    show getC [(a, l)] b = _
    unfold getC
    by_cases e : b = a
    · rw [if_pos e.symm, if_pos e]
    · rw [if_neg (fun h => e h.symm), if_neg e]; rfl
  | cons p t ih =>
    rw [List.cons_append]
    conv => lhs; unfold getC
    have ih' := ih fun q hq => h q (by simp [hq])
    have hp := h p (by simp)
    by_cases eb : p.1 = b
    · rw [if_pos eb, if_neg (fun e => hp (eb.trans e))]
      conv => rhs; unfold getC
      rw [if_pos eb]
    · rw [if_neg eb, ih']
      by_cases ea : b = a
      · rw [if_pos ea, if_pos ea]
      · rw [if_neg ea, if_neg ea]
        conv => rhs; unfold getC
        rw [if_neg eb]

/-! A queue in memory -/
def u32V (x : Int) : Value := .int .u32 x
def i64V (x : Int) : Value := .int .i64 x
/-- The queue in block g, whose blocks O names. -/
def QS (w : World) (g n room each : Nat) (cl : Cl) (O : Nat → Prop) : Prop :=
  ∃ (mb : Nat) (rv : Value) (F : Int → Value),
    (Blk w g 92 #[.int .i64 (room : Int), .int .i64 (each : Int), .int .i64 (manyC cl : Int), rv, .map (some mb)] ∧ Sl w 1 rv cl.length (cl.map fun p => u32V p.1) ∧ MapF w mb n F) ∧
    (OkC cl ∧ (∀ a, Sl w 1 (F a) (getC cl a).length ((getC cl a).map i64V)) ∧ ∀ a, getC cl a = [] → F a = nilS) ∧
    ((O g ∧ O mb ∧ g ≠ mb) ∧ (∀ k, rv.ownBlock = some k → O k ∧ k ≠ g ∧ k ≠ mb) ∧ (∀ a k, (F a).ownBlock = some k → O k ∧ k ≠ g ∧ k ≠ mb ∧ rv.ownBlock ≠ some k) ∧ ∀ a b k, (F a).ownBlock = some k → (F b).ownBlock = some k → a = b)
theorem QS.keep {w w' : World} {g n room each : Nat} {cl : Cl} {O : Nat → Prop} (h : QS w g n room each cl O) (hk : KeepK O w w') : QS w' g n room each cl O := by
  obtain ⟨mb, rv, F, ⟨h1, h2, h3⟩, ⟨h4, h5, h6⟩, ⟨⟨o1, o2, o3⟩, o4, o5, o6⟩⟩ := h
  exact ⟨mb, rv, F, ⟨h1.keepK hk o1, h2.keepK hk fun k e => (o4 k e).1, h3.keepK hk o2⟩, ⟨h4, fun a => (h5 a).keepK hk fun k e => (o5 a k e).1, h6⟩, ⟨⟨o1, o2, o3⟩, o4, o5, o6⟩⟩
theorem QS.drewN {w : World} {g n room each : Nat} {cl : Cl} {O : Nat → Prop} (h : QS w g n room each cl O) (k : Nat) : QS (w.drewN k) g n room each cl O := h.keep ((KeepK.refl _ _).drewN k)
end Go.Proofs.Ytkdfbmbccopchaa
