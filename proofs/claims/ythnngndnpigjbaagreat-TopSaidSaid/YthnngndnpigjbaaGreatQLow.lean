/- A region that draws its order, whose operations only read, and whose calls leave all that was there as it was: walked once, in the order of the text. Plain: no program in sight. (Turned from the kit's go_quiet and its kin over another class of worlds.) Conditions: none. A region that draws its order: the operations that only read, and the calls that leave all that was there as it was, are carried out at once, whatever the order, where none but these come up till all are listed. Plain: no program in sight. (Turned from XStill's law, over a class of worlds.) Conditions: none. -/
import Derived.Test.YthnngndnpigjbaaGreatBase
import Derived.Deep.QuietTactic
import Derived.Test.YthnngndnpigjbaaGreatStill
namespace Go.Proofs.YthnngndnpigjbaaGreat
open Go.RowKit

/-- A world in which all that lay in w lies as it lay. -/
structure BelowOf (w : World) where
  X : World
  h : Below w.heap.size w X
instance (w : World) : Inhabited (BelowOf w) := ⟨⟨w, Below.refl _ w⟩⟩
/-- A veil before a statement. -/
structure Veil (p : Prop) : Prop where
  out : p
/-- (The steps' goals are hidden: else the elaborator reckons them out, where guards are false.) -/
theorem wp_region_low {P : Program} {id : Nat} {Q : Exit → Act → World → Prop} {a : Act} {w : World} {l : List Oper} (hm : P.follows .mixedOrders = true) (hB : Region.lexB .any l.toArray = true)
    (h : Veil (wpQuiet P l.toArray (fun w' => ∃ p : BelowOf w, w' = p.X) (fun a' => ∀ p : BelowOf w, Q .normal a' p.X) l a)) : (Code.region id l.toArray true).wp P Q a w :=
  wp_region_quiet (C := fun w' => ∃ p : BelowOf w, w' = p.X) hm hB ⟨⟨w.drew, (Below.refl _ w).drew⟩, rfl⟩ (by
    have e : (fun a' : Act => ∀ w', (∃ p : BelowOf w, w' = p.X) → Q .normal a' w') = fun a' : Act => ∀ p : BelowOf w, Q .normal a' p.X := by
      funext a'
      exact propext ⟨fun h p => h _ ⟨p, rfl⟩, by rintro h _ ⟨p, rfl⟩; exact h p⟩
    rw [e]
    exact h.out)
theorem low_step {P : Program} {ops : Array Oper} {C : World → Prop} {Q : Act → Prop} {a : Act} {o : Oper} {rest : List Oper}
    (h : ∀ K : Act → Prop, (∀ a, Veil (wpQuiet P ops C Q rest a) → K a) → if Region.wanted o (yielded ops a.tmps) then o.quiet P a C K else K (a.put o.dst undef)) : Veil (wpQuiet P ops C Q (o :: rest) a) :=
  ⟨wpQuiet_step fun K hK => h K fun a ha => hK a ha.out⟩
theorem low_nil {P : Program} {ops : Array Oper} {C : World → Prop} {Q : Act → Prop} {a : Act} (h : Q a) : Veil (wpQuiet P ops C Q [] a) := ⟨h⟩
/-- A callee's contract, met in a world of the class. -/
theorem calls_low {P : Program} {f : FuncId} {args : Array Value} {w : World} {p : BelowOf w} {v : Value}
    (h : Calls P f args p.X fun e w' => e = .returned v ∧ Below p.X.heap.size p.X w') : Calls P f args p.X fun e w'' => e = .returned v ∧ ∃ p : BelowOf w, w'' = p.X :=
  h.mono fun _ w' ⟨he, hb⟩ => ⟨he, ⟨w', p.h.trans (hb.mono p.h.size)⟩, rfl⟩
theorem BelowOf.cell {w : World} {a : Addr} {v : Value} (hb : a.block < w.heap.size) (h : w.cell? a = some v) (p : BelowOf w) : p.X.cell? a = some v := (p.h.cell hb).trans h
theorem Blk.low {w : World} {g : Nat} {t : TypeId} {cs : Array Value} (h : Blk w g t cs) (p : BelowOf w) : Blk p.X g t cs := h.below p.h h.lt
end Go.Proofs.YthnngndnpigjbaaGreat

namespace Go.Proofs.YthnngndnpigjbaaGreat
open Go.RowKit

/-- From here on, whatever the order, none but rows come up till one of the stops is met. -/
def chkT (md : Region.Mode) (ops : Array Oper) (F : List (Nat × Tmp)) (stops : List (Nat × Array Bool)) : Nat → Array Bool → Bool
  | 0, listed => stops.any fun s => s.1 == 0 && s.2 == listed
  | f + 1, listed => (stops.any fun s => s.1 == f + 1 && s.2 == listed) ||
    (!(Region.ready md ops listed).isEmpty && (Region.ready md ops listed).all fun i => (F.any fun p => p.1 == i) && seen ops F listed i && chkT md ops F stops f (listed.setIfInBounds i true))
theorem wpAny_quietT {P : Program} {md : Region.Mode} {ops : Array Oper} {Q : Exit → Act → World → Prop} {C : World → Prop} (L : List Row) (hL : apartL L) (a0 : Act) (stops : List (Nat × Array Bool)) (fin : Array Bool)
    (hfin : ∀ r ∈ L, fin.getD r.i false = true)
    (hp : ∀ r ∈ L, ∃ o, ops[r.i]? = some o ∧ o.dst = some r.d ∧ (∀ cs b, o.op ≠ .select cs b) ∧ ∀ W, C W → o.quietAt P (fillS fin L a0) C W r.v)
    (H : ∀ s ∈ stops, ∀ W, C W → wpAny P md ops Q s.1 s.2 (fillS s.2 L a0) W) :
    ∀ (fuel : Nat) (listed : Array Bool) (W : World), C W → chkT md ops (L.map fun r => (r.i, r.d)) stops fuel listed = true → wpAny P md ops Q fuel listed (fillS listed L a0) W
  | 0, listed, W, hW, h => by
    simp only [chkT] at h
    obtain ⟨s, hs, h1⟩ := List.any_eq_true.1 h
    simp only [Bool.and_eq_true, beq_iff_eq] at h1
    have := H s hs W hW
    rw [h1.1, h1.2] at this
    exact this
  | f + 1, listed, W, hW, h => by
    simp only [chkT, Bool.or_eq_true, Bool.and_eq_true] at h
    rcases h with h | ⟨h1, h2⟩
    · obtain ⟨s, hs, h1⟩ := List.any_eq_true.1 h
      simp only [Bool.and_eq_true, beq_iff_eq] at h1
      have := H s hs W hW
      rw [h1.1, h1.2] at this
      exact this
    · refine ⟨fun h0 => by rw [h0] at h1; simp at h1, fun i hi => ?_⟩
      have hall := List.all_eq_true.1 h2 i hi
      simp only [Bool.and_eq_true] at hall
      obtain ⟨⟨ha, hs⟩, hc⟩ := hall
      obtain ⟨p, hpm, hpi⟩ := List.any_eq_true.1 ha
      obtain ⟨r, hr, rfl⟩ := List.mem_map.1 hpm
      have hri : r.i = i := by simpa using hpi
      subst hri
      obtain ⟨o, ho, hd, hsel, hrun⟩ := hp r hr
      unfold seen at hs
      rw [ho] at hs
      simp only [Bool.and_eq_true] at hs
      obtain ⟨hg, hop⟩ := hs
      have hg' : o.guard = none := by simpa using hg
      have heval : ∀ x ∈ o.op.operands, (fillS listed L a0).eval x = (fillS fin L a0).eval x := by
        intro x hx
        have h3 := (Array.all_eq_true'.1 hop) x hx
        cases x with
        | tmp t =>
          refine fillS_at listed fin t L a0 a0 (fun y hy hyt => ⟨?_, hfin y hy⟩) rfl rfl
          have h4 := List.all_eq_true.1 h3 (y.i, y.d) (List.mem_map.2 ⟨y, hy, rfl⟩)
          simpa [hyt] using h4
        | const v => rfl
        | global g => rfl
        | func f => rfl
      unfold wpOp
      simp only [ho]
      have hw : Region.wanted o (yielded ops (fillS listed L a0).tmps) = true := by unfold Region.wanted; rw [hg']
      rw [if_pos hw]
      refine Or.inl (Oper.wp_of_quiet (K := fun a => a = fillS (listed.setIfInBounds r.i true) L a0) hW (fun a w2 hw2 ha => ?_) ⟨r.v, fun X hX => ?_, ?_⟩)
      · rw [ha]
        exact wpAny_quietT L hL a0 stops fin hfin hp H f _ w2 hw2 hc
      · have := hrun X hX
        unfold Oper.quietAt at this ⊢
        rw [execOp_congr o hsel heval]
        exact this
      · rw [hd]
        exact fillS_step listed L a0 r hL hr (ready_un hi)
/-- A region's rows are carried out, whatever the order, up to one of the stops. -/
theorem region_quietT {P : Program} {id : Nat} {ops : Array Oper} {Q : Exit → Act → World → Prop} {a0 : Act} {w : World} (hm : P.follows .mixedOrders = true) (L : List Row) (stops : List (Nat × Array Bool)) (fin : Array Bool) (hL : apartL L)
    (hfin : ∀ r ∈ L, fin.getD r.i false = true) (hchk : chkT .any ops (L.map fun r => (r.i, r.d)) stops ops.size (Array.replicate ops.size false) = true)
    (h0 : fillS (Array.replicate ops.size false) L a0 = a0) (A : Act) (hA : fillS fin L a0 = A)
    (hp : ∀ r ∈ L, ∃ o, ops[r.i]? = some o ∧ o.dst = some r.d ∧ (∀ cs b, o.op ≠ .select cs b) ∧ ∀ W, (∃ p : BelowOf w, W = p.X) → o.quietAt P A (fun W => ∃ p : BelowOf w, W = p.X) W r.v)
    (H : ∀ p : BelowOf w, ∀ s ∈ stops, wpAny P .any ops Q s.1 s.2 (fillS s.2 L a0) p.X) : (Code.region id ops true).wp P Q a0 w := by
  subst hA
  refine wp_region_any hm ?_
  have := wpAny_quietT (C := fun W => ∃ p : BelowOf w, W = p.X) L hL a0 stops fin hfin hp (fun s hs W hW => by obtain ⟨p, rfl⟩ := hW; exact H p s hs) ops.size _ w.drew ⟨⟨w.drew, (Below.refl _ w).drew⟩, rfl⟩ hchk
  rw [h0] at this
  exact this
/-- As region_quietT, the frame's values laid once as a table of slots: each row sees the table alone. -/
theorem region_quietE {P : Program} {id : Nat} {ops : Array Oper} {Q : Exit → Act → World → Prop} {a0 : Act} {w : World} (hm : P.follows .mixedOrders = true) (L : List Row) (stops : List (Nat × Array Bool)) (fin : Array Bool) (E : List (Tmp × Value)) (hL : apartL L)
    (hfin : ∀ r ∈ L, fin.getD r.i false = true) (hchk : chkT .any ops (L.map fun r => (r.i, r.d)) stops ops.size (Array.replicate ops.size false) = true)
    (h0 : fillS (Array.replicate ops.size false) L a0 = a0) (hE : (E.map fun x => (fillS fin L a0).tmps.getD x.1 undef) = E.map fun x => x.2)
    (hp : ∀ ρ : Operand → Value, (∀ x ∈ E, ρ (.tmp x.1) = x.2) → (∀ v, ρ (.const v) = v) → (∀ f, ρ (.func f) = .func (.func f) #[] #[]) → ∀ r ∈ L, ∃ o, ops[r.i]? = some o ∧ o.dst = some r.d ∧ (∀ cs b, o.op ≠ .select cs b) ∧ ∀ p : BelowOf w, Oper.quietUpon P (fun W => ∃ p : BelowOf w, W = p.X) p.X r.v ((execOp ρ o).run P p.X))
    (H : ∀ p : BelowOf w, ∀ s ∈ stops, wpAny P .any ops Q s.1 s.2 (fillS s.2 L a0) p.X) : (Code.region id ops true).wp P Q a0 w := by
  have hE' : ∀ (E : List (Tmp × Value)), (E.map fun x => (fillS fin L a0).tmps.getD x.1 undef) = E.map (fun x => x.2) → ∀ x ∈ E, (fillS fin L a0).eval (.tmp x.1) = x.2 := by
    intro E
    induction E with
    | nil => intro _ x hx; cases hx
    | cons y ys ih =>
      intro h x hx
      simp only [List.map_cons, List.cons.injEq] at h
      rcases List.mem_cons.1 hx with rfl | hx
      · exact h.1
      · exact ih h.2 x hx
  refine region_quietT hm L stops fin hL hfin hchk h0 _ rfl (fun r hr => ?_) H
  obtain ⟨o, h1, h2, h3, h4⟩ := hp (fillS fin L a0).eval (hE' E hE) (fun _ => rfl) (fun _ => rfl) r hr
  exact ⟨o, h1, h2, h3, fun W hW => by obtain ⟨p, rfl⟩ := hW; exact h4 p⟩
end Go.Proofs.YthnngndnpigjbaaGreat
