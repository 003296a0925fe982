/- A region that draws its order, in a round or not: the operations that turn nothing, all ahead of the one that calls, are carried out in one step. Plain: no program in sight. -/
import Derived.OrdersIn
import Derived.Deep.Draws
namespace Go.Proofs.YthnngndnpigjbaaGreat

/-- An operation of the region, the slot that it fills, and with what. -/
structure Row where
  i : Nat
  d : Tmp
  v : Value
/-- The activation behind the rows that are listed. -/
def fillS (listed : Array Bool) (L : List Row) (a : Act) : Act :=
  L.foldl (fun a r => if listed.getD r.i false = true then a.put (some r.d) r.v else a) a
theorem fillS_cons (listed : Array Bool) (r : Row) (L : List Row) (a : Act) :
    fillS listed (r :: L) a = fillS listed L (if listed.getD r.i false = true then a.put (some r.d) r.v else a) := rfl
theorem fillS_put (listed : Array Bool) (d : Tmp) (v : Value) : ∀ (L : List Row) (a : Act), (∀ r ∈ L, r.d ≠ d) → fillS listed L (a.put (some d) v) = (fillS listed L a).put (some d) v
  | [], _, _ => rfl
  | r :: L, a, h => by
    rw [fillS_cons, fillS_cons]
    have hr := h r (by simp)
    have hL := fun x hx => h x (List.mem_cons_of_mem r hx)
    split
    · rw [Act.put_comm a v r.v (by intro d' e1 e; cases e1; exact hr (Option.some.inj e))]
      exact fillS_put listed d v L _ hL
    · exact fillS_put listed d v L _ hL
theorem getD_other {l : Array Bool} {i j : Nat} (h : i ≠ j) (b : Bool) : (l.setIfInBounds i true).getD j b = l.getD j b := by
  simp only [Array.getD_eq_getD_getElem?, Array.getElem?_setIfInBounds, if_neg h]
theorem fillS_congr (listed : Array Bool) (i : Nat) : ∀ (L : List Row) (a : Act), (∀ r ∈ L, r.i ≠ i) → fillS (listed.setIfInBounds i true) L a = fillS listed L a
  | [], _, _ => rfl
  | r :: L, a, h => by
    rw [fillS_cons, fillS_cons, getD_other (Ne.symm (h r (by simp)))]
    exact fillS_congr listed i L _ (fun x hx => h x (List.mem_cons_of_mem r hx))
/-- The rows are apart. -/
def apartL : List Row → Prop
  | [] => True
  | r :: L => (∀ x ∈ L, x.i ≠ r.i ∧ x.d ≠ r.d) ∧ apartL L
theorem fillS_step (listed : Array Bool) : ∀ (L : List Row) (a : Act) (r : Row), apartL L → r ∈ L → listed.getD r.i true = false →
    (fillS listed L a).put (some r.d) r.v = fillS (listed.setIfInBounds r.i true) L a
  | x :: L, a, r, hL, hr, hu => by
    have hlt : r.i < listed.size := by
      rcases Nat.lt_or_ge r.i listed.size with h | h
      · exact h
      · rw [Array.getD_eq_getD_getElem?, Array.getElem?_eq_none h] at hu; simp at hu
    have hu' : listed.getD r.i false = false := by
      rw [Array.getD_eq_getD_getElem?, Array.getElem?_eq_getElem hlt] at hu ⊢; exact hu
    rcases List.mem_cons.1 hr with rfl | hr'
    · rw [fillS_cons, fillS_cons, fillS_congr _ _ L _ (fun y hy => (hL.1 y hy).1), hu']
      have h1 : (listed.setIfInBounds r.i true).getD r.i false = true := by
        rw [Array.getD_eq_getD_getElem?, Array.getElem?_setIfInBounds, if_pos rfl, if_pos hlt]; rfl
      rw [h1, if_pos rfl, if_neg (by simp), fillS_put _ _ _ L _ (fun y hy => (hL.1 y hy).2)]
    · rw [fillS_cons, fillS_cons, getD_other (hL.1 r hr').1]
      exact fillS_step listed L _ r hL.2 hr' hu
/-- What a slot holds is the same, once all that fill it are listed. -/
theorem fillS_at (l1 l2 : Array Bool) (t : Tmp) : ∀ (L : List Row) (a b : Act), (∀ r ∈ L, r.d = t → l1.getD r.i false = true ∧ l2.getD r.i false = true) → a.tmps.size = b.tmps.size → a.tmps.getD t undef = b.tmps.getD t undef →
    (fillS l1 L a).tmps.getD t undef = (fillS l2 L b).tmps.getD t undef
  | [], _, _, _, _, h => h
  | r :: L, a, b, hr, hs, h => by
    rw [fillS_cons, fillS_cons]
    have put_at : ∀ (c : Act) (h' : r.d ≠ t), (c.put (some r.d) r.v).tmps.getD t undef = c.tmps.getD t undef := fun c h' => by
      show (c.tmps.setIfInBounds r.d r.v).getD t undef = _
      simp only [Array.getD_eq_getD_getElem?, Array.getElem?_setIfInBounds, if_neg h']
    have put_sz : ∀ (c : Act), (c.put (some r.d) r.v).tmps.size = c.tmps.size := fun c => by show (c.tmps.setIfInBounds r.d r.v).size = _; simp
    refine fillS_at l1 l2 t L _ _ (fun x hx => hr x (List.mem_cons_of_mem r hx)) ?_ ?_
    · split <;> split <;> simp only [put_sz, hs]
    · by_cases hd : r.d = t
      · obtain ⟨h1, h2⟩ := hr r (by simp) hd
        rw [if_pos h1, if_pos h2]
        show (a.tmps.setIfInBounds r.d r.v).getD t undef = (b.tmps.setIfInBounds r.d r.v).getD t undef
        subst hd
        simp only [Array.getD_eq_getD_getElem?, Array.getElem?_setIfInBounds, if_true, hs]
      · split <;> split <;> simp only [put_at _ hd, h]

/-- All that fill the slots that the operation looks at are listed. -/
def seen (ops : Array Oper) (F : List (Nat × Tmp)) (listed : Array Bool) (i : Nat) : Bool :=
  match ops[i]? with
  | none => false
  | some o => o.guard.isNone && o.op.operands.all fun x => match x with
    | .tmp t => F.all fun p => p.2 != t || listed.getD p.1 false
    | _ => true
/-- From here on, whatever the order, none but rows come up till all are listed. -/
def chkS (md : Region.Mode) (ops : Array Oper) (F : List (Nat × Tmp)) (k : Nat) (fin : Array Bool) : Nat → Array Bool → Bool
  | 0, listed => k == 0 && listed == fin
  | f + 1, listed => (k == f + 1 && listed == fin) ||
    (!(Region.ready md ops listed).isEmpty && (Region.ready md ops listed).all fun i => (F.any fun p => p.1 == i) && seen ops F listed i && chkS md ops F k fin f (listed.setIfInBounds i true))

theorem ready_un {md : Region.Mode} {ops : Array Oper} {listed : Array Bool} {i : Nat} (h : i ∈ Region.ready md ops listed) : listed.getD i true = false := by
  have := (List.mem_filter.1 h).2
  simp only [Bool.and_eq_true, Bool.not_eq_true'] at this
  exact this.1
theorem wpAnyIn_still {F : Fence} {n : Nat} {P : Program} {md : Region.Mode} {ops : Array Oper} {Q : Exit → Act → World → Prop} (L : List Row) (hL : apartL L) (a0 : Act) (w : World) (k : Nat) (fin : Array Bool)
    (hfin : ∀ r ∈ L, fin.getD r.i false = true)
    (hp : ∀ r ∈ L, ∃ o, ops[r.i]? = some o ∧ o.dst = some r.d ∧ (∀ cs b, o.op ≠ .select cs b) ∧ (∀ c, o.op ≠ .defer c) ∧ (execOp (fillS fin L a0).eval o).run P w = .ok (.value r.v) w ∧ o.about P w (fillS fin L a0).eval = none)
    (H : wpAnyIn F n P md ops Q k fin (fillS fin L a0) w) :
    ∀ (fuel : Nat) (listed : Array Bool), chkS md ops (L.map fun r => (r.i, r.d)) k fin fuel listed = true → wpAnyIn F n P md ops Q fuel listed (fillS listed L a0) w
  | 0, listed, h => by
    simp only [chkS, Bool.and_eq_true, beq_iff_eq] at h
    rw [h.2]
    have := h.1 ▸ H
    exact this
  | f + 1, listed, h => by
    simp only [chkS, Bool.or_eq_true, Bool.and_eq_true, beq_iff_eq] at h
    rcases h with ⟨h1, h2⟩ | ⟨h1, h2⟩
    · rw [h2, ← h1]; exact H
    · refine ⟨fun h0 => by rw [h0] at h1; simp at h1, fun i hi => ?_⟩
      have hall := List.all_eq_true.1 h2 i hi
      simp only [Bool.and_eq_true] at hall
      obtain ⟨⟨ha, hs⟩, hc⟩ := hall
      obtain ⟨p, hpm, hpi⟩ := List.any_eq_true.1 ha
      obtain ⟨r, hr, rfl⟩ := List.mem_map.1 hpm
      have hri : r.i = i := by simpa using hpi
      subst hri
      obtain ⟨o, ho, hd, hsel, hdef, hrun, hab⟩ := hp r hr
      unfold seen at hs
      rw [ho] at hs
      simp only [Bool.and_eq_true] at hs
      obtain ⟨hg, hop⟩ := hs
      have hg' : o.guard = none := by simpa using hg
      have heval : ∀ x ∈ o.op.operands, (fillS listed L a0).eval x = (fillS fin L a0).eval x := by
        intro x hx
        have h3 := (Array.all_eq_true'.1 hop) x hx
        cases x with
        | tmp t =>
          refine fillS_at listed fin t L a0 a0 (fun y hy hyt => ⟨?_, hfin y hy⟩) rfl rfl
          have h4 := List.all_eq_true.1 h3 (y.i, y.d) (List.mem_map.2 ⟨y, hy, rfl⟩)
          simpa [hyt] using h4
        | const v => rfl
        | global g => rfl
        | func f => rfl
      unfold wpOpIn
      simp only [ho]
      have hw : Region.wanted o (yielded ops (fillS listed L a0).tmps) = true := by unfold Region.wanted; rw [hg']
      rw [if_pos hw]
      unfold Oper.wpIn
      rw [Oper.semAt_eq _ _ _ hdef, execOp_congr o hsel heval, about_congr o w heval, hrun, hab]
      refine ⟨fun f hf => (nomatch hf), ?_⟩
      show wpAnyIn F n P md ops Q f (listed.setIfInBounds r.i true) ((fillS listed L a0).put o.dst r.v) w
      rw [hd, fillS_step listed L a0 r hL hr (ready_un hi)]
      exact wpAnyIn_still L hL a0 w k fin hfin hp H f _ hc

theorem region_still {F : Fence} {n : Nat} {P : Program} {id : Nat} {ops : Array Oper} {Q : Exit → Act → World → Prop} {a0 : Act} {w : World} (hm : P.follows .mixedOrders = true) (L : List Row) (k : Nat) (fin : Array Bool) (hL : apartL L)
    (hfin : ∀ r ∈ L, fin.getD r.i false = true) (hchk : chkS .any ops (L.map fun r => (r.i, r.d)) k fin ops.size (Array.replicate ops.size false) = true)
    (h0 : fillS (Array.replicate ops.size false) L a0 = a0) (A : Act) (hA : fillS fin L a0 = A)
    (hp : ∀ r ∈ L, ∃ o, ops[r.i]? = some o ∧ o.dst = some r.d ∧ (∀ cs b, o.op ≠ .select cs b) ∧ (∀ c, o.op ≠ .defer c) ∧ (execOp A.eval o).run P w.drew = .ok (.value r.v) w.drew ∧ o.about P w.drew A.eval = none)
    (H : wpAnyIn F n P .any ops Q k fin A w.drew) : (Code.region id ops true).wpIn F n P Q a0 w := by
  subst hA
  refine wpIn_region_any hm ?_
  have := wpAnyIn_still L hL a0 w.drew k fin hfin hp H ops.size _ hchk
  rw [h0] at this
  exact this
end Go.Proofs.YthnngndnpigjbaaGreat
