/- A range over a function whose iterator has no box of its own, where the body may turn whatever is not kept for the iterator. Plain: no program in sight. (Turned from XRangeM's law.) Conditions: none. A region that draws its order, in a round or not: an operation that only reads, and reads the same in every world of a class that the others keep, may be taken first. Plain: no program in sight. (Turned from the kit's wpAnyIn_take, the class of worlds carried along.) Conditions: none. A range over a function, each value in a box of its own; the round sees the world ahead of the box. (rangeKA, turned.) Conditions: none. RegC's law in the plain calculus. Plain: no program in sight. Conditions: none. -/
import Derived.Test.YthnngndnpigjbaaGreatRangeN
import Derived.OrdersIn
import Derived.Deep.Draws
import Derived.RegionTactic
namespace Go.Proofs.YthnngndnpigjbaaGreat
open Go.RowKit
variable {P : Program}

/-- What is named lies as it lay; nothing has gone. -/
structure KeepS (S : Nat → Prop) (W W' : World) : Prop where
  size : W.heap.size ≤ W'.heap.size
  same : ∀ i, i < W.heap.size → S i → W'.heap[i]? = W.heap[i]?
section
variable {S : Nat → Prop} {U V W : World}
theorem KeepS.refl (S : Nat → Prop) (W : World) : KeepS S W W := ⟨Nat.le_refl _, fun _ _ _ => rfl⟩
theorem KeepS.trans (h : KeepS S U V) (k : KeepS S V W) : KeepS S U W :=
  ⟨Nat.le_trans h.size k.size, fun i hi h1 => (k.same i (Nat.lt_of_lt_of_le hi h.size) h1).trans (h.same i hi h1)⟩
theorem KeepS.of_below (h : Below U.heap.size U V) : KeepS S U V := ⟨h.size, fun i hi _ => h.block i hi⟩
theorem KeepS.put {l : Nat} (o : Obj) (h : ¬ S l) : KeepS S U (U.putObj l o) :=
  ⟨by simp, fun i _ h1 => World.putObj_heap_other (by rintro rfl; exact h h1)⟩
theorem KeepS.cell {a : Addr} (v : Value) (h : ¬ S a.block) : KeepS S U (U.setCell a v) :=
  ⟨by simp [World.setCell], fun i _ h1 => Below.heap_setCell _ _ _ _ (by rintro rfl; exact h h1)⟩
theorem KeepS.alloc (h : KeepS S U V) (o : Obj) : KeepS S U (V.alloc o) := h.trans (.of_below ((Below.refl _ _).alloc (Nat.le_refl _) _))
theorem KeepS.drew (h : KeepS S U V) : KeepS S U V.drew := ⟨h.size, h.same⟩
theorem KeepS.grown {row : Option Nat} (h : KeepS S U V) (hg : V.grownBy W row) (hr : ∀ i, row = some i → ¬ S i) : KeepS S U W :=
  h.trans ⟨hg.size, fun i hi h1 => hg.block i hi (fun e => hr i e.symm h1)⟩
theorem KeepS.mono {S' : Nat → Prop} (h : KeepS S U V) (hs : ∀ i, S' i → S i) : KeepS S' U V := ⟨h.size, fun i hi h1 => h.same i hi (hs i h1)⟩
end
/-- The iterator calls its round with the values of L, one behind the other, till one says no more; it turns nothing; what is in K is kept for it. -/
def SeqK {α : Type} (P : Program) (g : Nat) (lb : Array Value) (encs : α → Array Value) (K : Nat → Prop) (L : List α) (w : World) : Prop :=
  ∀ (n : Nat) (l : Nat) (J Jx : List α → World → Prop) (W : World), Below w.heap.size w W →
    (∀ s A A', J s A → Below A.heap.size A A' → J s A') → (∀ s A A', Jx s A → Below A.heap.size A A' → Jx s A') →
    (∀ pre x W1, J pre W1 → pre ++ [x] <+: L → YieldAt Fence.wide n P l (encs x) W1 fun e W' =>
      (e = .returned (.bool true) ∧ J (pre ++ [x]) W' ∧ KeepS K W1 W') ∨ (e = .returned (.bool false) ∧ Jx (pre ++ [x]) W')) →
    J [] W →
    CallsIn Fence.wide n P g (#[.func (.yield l) #[] #[]] ++ lb) W fun e W' => (∃ v, e = .returned v) ∧ (J L W' ∨ ∃ pre, pre <+: L ∧ Jx pre W')

/-- What a round owes. -/
def postK {α : Type} (S : Nat → Prop) (I : List α → World → Prop) (Ix : Code → List α → World → Prop) (xs : List α) (W : World) : Exit → Act → World → Prop
  | .normal, _, W' => KeepS S W W' ∧ I xs W'
  | .ret, _, W' => KeepS S W W' ∧ Ix .ret xs W'
  | .exit id, _, W' => KeepS S W W' ∧ Ix (.exit id) xs W'
  | .goto t, _, W' => KeepS S W W' ∧ Ix (.goto t) xs W'
  | .panic _, _, _ => False
  | .outgrown, _, _ => False

/-- Each value is laid into a box of its own. -/
theorem rangeKA {α : Type} {n : Nat} {g : Operand} {ps : Array Tmp} {assign body : Code} {Q : Exit → Act → World → Prop} {a : Act} {w : World}
    {gf : Nat} {lb : Array Value} (hg : a.eval g = .func (.func gf) #[] lb) (eg : ∀ args w, (callFunc gf args).run P w = .ok (.enter gf args) w)
    {encs : α → Array Value} {K : Nat → Prop} {L : List α} {w0 : World} (hseq : SeqK P gf lb encs K L w0)
    (hb : ∀ i, K i → i < w.heap.size) (hb0 : Below w0.heap.size w0 w) (hps : ∀ x, (encs x).size = ps.size)
    (I : List α → World → Prop) (Ix : Code → List α → World → Prop) (hI : ∀ s A A', I s A → Out w.heap.size (w.heap.size + 2) A A' → I s A') (hIx : ∀ c s A A', Ix c s A → Out w.heap.size (w.heap.size + 2) A A' → Ix c s A')
    (h0 : I [] w) (o : α → Obj) (a₁ : α → Nat → Act)
    (hassign : ∀ (l : Nat) (x : α) (W : World) (g : Nat) (K : Act → World → Prop), g = W.heap.size → K (a₁ x g) (W.alloc (o x)) →
      assign.wpIn (Fence.wide.inRound l) (n - 1 - 1) P (Exit.then K (fun _ _ _ => False)) { tmps := (ps.zip (encs x)).foldl (fun t (p, v) => t.setIfInBounds p v) a.tmps, defers := [] } W)
    (hbody : ∀ (l : Nat) (pre : List α) (x : α) (g : Nat) (W : World), w.heap.size + 2 ≤ g → g + 1 = W.heap.size → W.heap[g]? = some (o x) → I pre W → pre ++ [x] <+: L → body.wpIn (Fence.wide.inRound l) (n - 1 - 1) P (postK (fun i => (w.heap.size ≤ i ∧ i < w.heap.size + 2) ∨ K i) I Ix (pre ++ [x]) W) (a₁ x g) W)
    (hdone : ∀ (D : Nat) (W : World), w.heap.size = D → I L W → W.heap[D]? = some (.deferred (some [])) → Q .normal { a with defers := { target := .collected D, args := #[] } :: a.defers } W)
    (hstop : ∀ (D : Nat) (c : Code) (pre : List α) (W : World), w.heap.size = D → pre <+: L → Ix c pre W → W.heap[D]? = some (.deferred (some [])) → c.wpIn Fence.wide n P Q { a with defers := { target := .collected D, args := #[] } :: a.defers } W) :
    (Code.rangeFunc g ps assign body).wpIn Fence.wide n P Q a w := by
  refine wpIn_rangeFunc fun fn hfn => ?_
  rw [show Fence.wide.round = none from rfl]
  obtain ⟨rec, hrec⟩ : ∃ rec : LoopState → Option Code → Loop, rec = fun st pe => { state := st, pending := pe, fn, tmps := a.tmps, params := ps, assign, body, defers := w.heap.size } := ⟨_, rfl⟩
  obtain ⟨V, hV⟩ : ∃ V, (w.alloc (.deferred (some []))).alloc (.loop (rec .ready none)) = V := ⟨_, rfl⟩
  have hsz : V.heap.size = w.heap.size + 2 := by rw [← hV]; simp
  have vL : V.heap[w.heap.size + 1]? = some (.loop (rec .ready none)) := by
    rw [← hV]; have := World.alloc_heap_new (w.alloc (.deferred (some []))) (.loop (rec .ready none)); rwa [World.size_alloc] at this
  have vD : V.heap[w.heap.size]? = some (.deferred (some [])) := by
    rw [← hV]; exact (Below.heap_alloc _ _ _ (by simp)).trans (World.alloc_heap_new w _)
  have vW : Below w.heap.size w V := by
    rw [← hV]; exact ((Below.refl _ w).alloc (Nat.le_refl _) _).alloc (by simp) _
  have vB : Below w0.heap.size w0 V := hb0.trans (vW.mono hb0.size)
  refine ⟨w.heap.size + 1, [{ target := .collected w.heap.size, args := #[] }], V, { target := .fn (.func gf) lb, args := #[.func (.yield (w.heap.size + 1)) #[] #[]] }, V, gf,
    #[.func (.yield (w.heap.size + 1)) #[] #[]] ++ lb, V, ?_, ?_, ?_, ?_, fun h => by simp [Fence.wide] at h, ?_⟩
  · rw [← hV, hrec]; exact run_enterLoop_outer _ _ _ _ _
  · simp only [resolve, hg]; simp [go_sem]
  · intro f' hf'; simp [Target.leads] at hf'; subst hf'; trivial
  · simp [invoke, go_sem, eg]
  refine (hseq (n - 1) (w.heap.size + 1)
    (fun pre W => I pre W ∧ W.heap[w.heap.size + 1]? = some (.loop (rec .ready none)) ∧ W.heap[w.heap.size]? = some (.deferred (some [])))
    (fun pre W => (∃ c, Ix c pre W ∧ W.heap[w.heap.size + 1]? = some (.loop (rec .done (some c)))) ∧ W.heap[w.heap.size]? = some (.deferred (some [])))
    V vB ?keepJ ?keepX ?round ?start).mono ?behind
  case keepJ =>
    rintro s A B ⟨hi, hl, hk⟩ ho
    have h2 := (Array.getElem?_eq_some_iff.1 hl).1
    exact ⟨hI _ _ _ hi (.of_below ho), (ho.block _ h2).trans hl, (ho.block _ (by omega)).trans hk⟩
  case keepX =>
    rintro s A B ⟨⟨c, hc, hl⟩, hk⟩ ho
    have h2 := (Array.getElem?_eq_some_iff.1 hl).1
    exact ⟨⟨c, hIx _ _ _ _ hc (.of_below ho), (ho.block _ h2).trans hl⟩, (ho.block _ (by omega)).trans hk⟩
  case start =>
    exact ⟨hI _ _ _ h0 (.of_below vW), vL, vD⟩
  case behind =>
    rintro e W2 ⟨⟨v, rfl⟩, h | ⟨pre, hpre, ⟨c, h, hl⟩, hk⟩⟩
    · obtain ⟨hi, hl, hk⟩ := h
      have hrun := run_endLoop (P := P) hl (by rw [hrec]; simp)
      rw [hrec] at hrun
      exact ⟨none, _, hrun, hdone _ _ rfl (hI _ _ _ hi (.put _ (by omega))) ((World.putObj_heap_other (by omega)).trans hk)⟩
    · have hrun := run_endLoop (P := P) hl (by rw [hrec]; simp)
      rw [hrec] at hrun
      exact ⟨some c, _, hrun, hstop _ c pre _ rfl hpre (hIx _ _ _ _ h (.put _ (by omega))) ((World.putObj_heap_other (by omega)).trans hk)⟩
  case round =>
    rintro pre x W ⟨hi, hl, hk⟩ hpre
    have hlt : w.heap.size + 1 < W.heap.size := (Array.getElem?_eq_some_iff.1 hl).1
    have hy := run_yield (P := P) (args := encs x) hl (by rw [hrec]; exact hps x)
    rw [hrec] at hy
    have hl1 : (W.alloc (o x)).heap[w.heap.size + 1]? = some (.loop (rec .ready none)) := (Below.heap_alloc W (o x) _ hlt).trans hl
    have hk1 : (W.alloc (o x)).heap[w.heap.size]? = some (.deferred (some [])) := (Below.heap_alloc W (o x) _ (by omega)).trans hk
    have hlt1 : w.heap.size + 1 < (W.alloc (o x)).heap.size := by rw [World.size_alloc]; omega
    have hi1 : I pre (W.alloc (o x)) := hI _ _ _ hi (.of_below ((Below.refl _ _).alloc (Nat.le_refl _) _))
    have hKn : ∀ i, K i → i ≠ w.heap.size + 1 := fun i h e => by have := hb i h; omega
    refine yield_deep (n := n - 1 - 1) ⟨fn, _, assign, body, hy, roundIn_of_wpIn hfn (hassign _ x W _ _ rfl ⟨_, run_beginRound hl1 (by rw [hrec]), ?_⟩)⟩
    generalize hW2 : (W.alloc (o x)).putObj (w.heap.size + 1) (.loop { rec .ready none with state := .busy }) = W2
    have bL : W2.heap[w.heap.size + 1]? = some (.loop { rec .ready none with state := .busy }) := by rw [← hW2]; exact World.putObj_heap_same hlt1
    have bD : W2.heap[w.heap.size]? = some (.deferred (some [])) := by rw [← hW2]; exact (World.putObj_heap_other (by omega)).trans hk1
    have bK : KeepS K W W2 := by rw [← hW2]; exact ((KeepS.refl _ W).alloc (o x)).trans (.put _ (fun h => hKn _ h rfl))
    have bI : I pre W2 := by rw [← hW2]; exact hI _ _ _ hi1 (.put _ (by omega))
    have bG : W2.heap[W.heap.size]? = some (o x) := by rw [← hW2]; exact (World.putObj_heap_other (by omega)).trans (World.alloc_heap_new W _)
    have bS : W.heap.size + 1 = W2.heap.size := by rw [← hW2]; simp
    refine wpIn_mono (hbody _ pre x W.heap.size W2 (by omega) bS bG bI hpre) ?_
    have shut : ∀ (jump : Option Code) (W3 : World), KeepS (fun i => (w.heap.size ≤ i ∧ i < w.heap.size + 2) ∨ K i) W2 W3 →
        (Instr.endRound (w.heap.size + 1) jump).run P W3 = .ok (.bool jump.isNone) (W3.putObj (w.heap.size + 1) (.loop (rec (if jump.isNone then .ready else .done) jump))) ∧
        (W3.putObj (w.heap.size + 1) (.loop (rec (if jump.isNone then .ready else .done) jump))).heap[w.heap.size + 1]? = some (.loop (rec (if jump.isNone then .ready else .done) jump)) ∧
        (W3.putObj (w.heap.size + 1) (.loop (rec (if jump.isNone then .ready else .done) jump))).heap[w.heap.size]? = some (.deferred (some [])) ∧
        KeepS K W (W3.putObj (w.heap.size + 1) (.loop (rec (if jump.isNone then .ready else .done) jump))) := fun jump W3 h3 => by
      have z2 := bK.size
      have l3 := (h3.same _ (by omega) (.inl ⟨by omega, by omega⟩)).trans bL
      have hend := run_endRound (P := P) jump l3
      rw [hrec] at hend ⊢
      rw [hrec] at l3
      have h3' : KeepS K W2 W3 := h3.mono fun i h => .inr h
      exact ⟨hend, World.putObj_heap_same (Array.getElem?_eq_some_iff.1 l3).1, (World.putObj_heap_other (by omega)).trans ((h3.same _ (by omega) (.inl ⟨by omega, by omega⟩)).trans bD), (bK.trans h3').trans (.put _ (fun h => hKn _ h rfl))⟩
    have leave : ∀ (cd : Code) (W3 : World), KeepS (fun i => (w.heap.size ≤ i ∧ i < w.heap.size + 2) ∨ K i) W2 W3 → Ix cd (pre ++ [x]) W3 → ∃ v W4, (Instr.endRound (w.heap.size + 1) (some cd)).run P W3 = .ok v W4 ∧ v = .bool false ∧
        ((∃ c, Ix c (pre ++ [x]) W4 ∧ W4.heap[w.heap.size + 1]? = some (.loop (rec .done (some c)))) ∧ W4.heap[w.heap.size]? = some (.deferred (some []))) := fun cd W3 h3 hi3 => by
      obtain ⟨hr, hl4, hk4, hkp⟩ := shut (some cd) W3 h3
      exact ⟨_, _, hr, rfl, ⟨⟨cd, hIx _ _ _ _ hi3 (.put _ (by omega)), hl4⟩, hk4⟩⟩
    rintro e a3 W3 hp
    cases e with
    | normal =>
      obtain ⟨h3, hi3⟩ := hp
      obtain ⟨hr, hl4, hk4, hkp⟩ := shut none W3 h3
      exact ⟨_, _, hr, .inl ⟨rfl, ⟨hI _ _ _ hi3 (.put _ (by omega)), hl4, hk4⟩, hkp⟩⟩
    | ret =>
      obtain ⟨v, W4, hr, rfl, h⟩ := leave .ret W3 hp.1 hp.2
      exact ⟨_, _, hr, .inr ⟨rfl, h⟩⟩
    | exit id =>
      obtain ⟨v, W4, hr, rfl, h⟩ := leave (.exit id) W3 hp.1 hp.2
      exact ⟨_, _, hr, .inr ⟨rfl, h⟩⟩
    | goto t =>
      obtain ⟨v, W4, hr, rfl, h⟩ := leave (.goto t) W3 hp.1 hp.2
      exact ⟨_, _, hr, .inr ⟨rfl, h⟩⟩
    | panic ch => exact hp.elim
    | outgrown => exact hp.elim
end Go.Proofs.YthnngndnpigjbaaGreat

namespace Go.Proofs.YthnngndnpigjbaaGreat

section
variable {F : Fence} {n : Nat} {P : Program} {ops : Array Oper} {Q : Exit → Act → World → Prop} {md : Region.Mode} {C : World → Prop}

/-- Whatever order is picked from here on, each step's world is of the class. -/
def wpAnyC (F : Fence) (n : Nat) (P : Program) (md : Region.Mode) (ops : Array Oper) (C : World → Prop) (Q : Exit → Act → World → Prop) : Nat → Array Bool → Act → World → Prop
  | 0, listed, a, w => Region.ready md ops listed = [] ∧ Q .normal a w
  | fuel + 1, listed, a, w =>
    (Region.ready md ops listed = [] → Q .normal a w) ∧
    ∀ i ∈ Region.ready md ops listed, wpOpIn F n P ops Q i (fun a' w' => C w' ∧ wpAnyC F n P md ops C Q fuel (listed.setIfInBounds i true) a' w') a w

theorem wpAnyC_out : ∀ (fuel : Nat) (listed : Array Bool) (a : Act) (w : World), wpAnyC F n P md ops C Q fuel listed a w → wpAnyIn F n P md ops Q fuel listed a w
  | 0, _, _, _, h => h
  | fuel + 1, _, _, _, h => ⟨h.1, fun i hi => wpOpIn_mono (fun a' w' h' => wpAnyC_out fuel _ a' w' h'.2) (h.2 i hi)⟩

/-- In every world of the class the operation leaves v, and turns nothing. -/
structure YieldsC (F : Fence) (P : Program) (ops : Array Oper) (C : World → Prop) (o : Oper) (v : Value) (a : Act) : Prop where
  asked : ∀ w, C w → ∀ f, o.about P w a.eval = some f → F.fn f
  val : (Region.wanted o (yielded ops a.tmps) = true ∧ ∀ w, C w → (execOp a.eval o).run P w = .ok (.value v) w) ∨ (Region.wanted o (yielded ops a.tmps) = false ∧ v = undef)

/-- No operation puts a call off. -/
def noDefer (ops : Array Oper) : Bool := ops.all fun o => match o.op with | .defer _ => false | _ => true
theorem noDefer_spec (h : noDefer ops = true) (j : Nat) (o : Oper) (c : Call) (ho : ops[j]? = some o) : o.op ≠ .defer c := by
  intro heq
  have := Array.all_eq_true_iff_forall_mem.1 h o (Array.mem_of_getElem? ho)
  simp [heq] at this

theorem YieldsC.wpOpIn {i : Nat} {o : Oper} {v : Value} {a : Act} (hdi : ∀ c, o.op ≠ .defer c) (hi : ops[i]? = some o) (hy : YieldsC F P ops C o v a)
    {K : Act → World → Prop} {w : World} (hC : C w) (h : K (a.put o.dst v) w) : wpOpIn F n P ops Q i K a w := by
  unfold Go.wpOpIn
  simp only [hi]
  have hab : ∀ f, o.about P w a.eval = some f → F.fn f := hy.asked w hC
  rcases hy.val with ⟨hw, hv⟩ | ⟨hw, rfl⟩
  · simp only [hw, if_true, Oper.wpIn, Oper.semAt_eq _ _ _ hdi, hv w hC, Oper.uponIn]; exact ⟨hab, h⟩
  · simp only [hw, Bool.false_eq_true, if_false]; exact ⟨hab, h⟩

theorem YieldsC.of_same {o : Oper} {v : Value} {a a' : Act} (hy : YieldsC F P ops C o v a) (he : execOp a'.eval o = execOp a.eval o)
    (hw : Region.wanted o (yielded ops a'.tmps) = Region.wanted o (yielded ops a.tmps)) (hb : ∀ w, o.about P w a'.eval = o.about P w a.eval) : YieldsC F P ops C o v a' :=
  ⟨fun w hC f hf => hy.asked w hC f (by rw [← hb w]; exact hf), by rw [he, hw]; exact hy.val⟩

theorem wpOpIn_putC {j : Nat} {oi oj : Oper} {v : Value} (hdj : ∀ c, oj.op ≠ .defer c) (hj : ops[j]? = some oj) (hap : oi.apart ops oj = true)
    (hsi : ∀ cs b, oi.op ≠ .select cs b) (hsj : ∀ cs b, oj.op ≠ .select cs b)
    (hQ : ∀ c a w, Q (.panic c) (a.put oi.dst v) w → Q (.panic c) a w) {K : Act → World → Prop} {a : Act} {w : World}
    (hy : YieldsC F P ops C oi v a) (h : wpOpIn F n P ops Q j K (a.put oi.dst v) w) :
    wpOpIn F n P ops Q j (fun a' w' => YieldsC F P ops C oi v a' ∧ K (a'.put oi.dst v) w') a w := by
  obtain ⟨h1, h2, h3⟩ := Oper.apart_spec hap
  have keep : ∀ (a : Act), YieldsC F P ops C oi v a → ∀ u, YieldsC F P ops C oi v (a.put oj.dst u) := fun a hy u =>
    hy.of_same (execOp_put oi hsi a oj.dst u h3) (wanted_put oi a oj.dst u h3) (fun w => about_put oi w a oj.dst u h3)
  have keepD : ∀ d, YieldsC F P ops C oi v { a with defers := d :: a.defers } := fun d => hy.of_same rfl rfl (fun _ => rfl)
  unfold wpOpIn at *
  simp only [hj] at *
  rw [wanted_put oj a oi.dst v h1, about_put oj w a oi.dst v h1] at h
  split
  · rename_i hw
    simp only [hw, if_true] at h
    unfold Oper.wpIn at *
    rw [about_put oj w a oi.dst v h1] at h
    refine ⟨h.1, ?_⟩
    have h := h.2
    rw [Oper.semAt_eq _ _ _ hdj, execOp_put oj hsj a oi.dst v h1] at h
    rw [Oper.semAt_eq _ _ _ hdj]
    generalize (execOp a.eval oj).run P w = r at *
    cases r with
    | ok x w' =>
      cases x <;> simp only [Oper.uponIn] at h ⊢
      case value u => exact ⟨keep a hy u, by rw [← Act.put_comm a v u h2]; exact h⟩
      case skip => exact ⟨keep a hy _, by rw [← Act.put_comm a v undef h2]; exact h⟩
      case defer d =>
        refine ⟨keep _ (keepD d) _, ?_⟩
        rw [← Act.put_comm _ v undef h2, ← Act.put_defers]
        exact h
      case enter f args =>
        refine ⟨h.1, CallsIn.mono h.2 fun e w'' he => ?_⟩
        cases e with
        | returned u => exact ⟨keep a hy u, by rw [← Act.put_comm a v u h2]; exact he⟩
        | panicked c => exact hQ _ _ _ he
        | outgrown => exact he
      case row row args => exact ⟨h.1, RowsIn.mono h.2 fun u w'' he => ⟨keep a hy u, by rw [← Act.put_comm a v u h2]; exact he⟩⟩
      case round l f tmps assign body =>
        refine ⟨h.1, RoundIn.mono h.2 fun e w'' he => ?_⟩
        cases e with
        | returned u => exact ⟨keep a hy u, by rw [← Act.put_comm a v u h2]; exact he⟩
        | panicked c => exact hQ _ _ _ he
        | outgrown => exact he
    | halt x w' =>
      cases x <;> simp only [Oper.uponIn] at h ⊢
      case panic u => exact hQ _ _ _ h
  · rename_i hw
    simp only [hw] at h
    exact ⟨h.1, keep a hy _, by rw [← Act.put_comm a v undef h2]; exact h.2⟩

theorem wpAnyC_first {i : Nat} {oi : Oper} {v : Value} (hdef : ∀ (j : Nat) (o : Oper) c, ops[j]? = some o → o.op ≠ .defer c) (hi : ops[i]? = some oi) (hsel : ∀ (j : Nat) (o : Oper) cs b, ops[j]? = some o → o.op ≠ .select cs b)
    (hQ : ∀ c a w, Q (.panic c) (a.put oi.dst v) w → Q (.panic c) a w) :
    ∀ (fuel : Nat) (listed : Array Bool) (a : Act) (w : World),
      (∀ j oj, ops[j]? = some oj → j ≠ i → listed.getD j true = false → (∀ e ∈ oj.after, Region.binds md e = true → e.on ≠ i) → oi.apart ops oj = true) →
      i ∈ Region.ready md ops listed → C w → YieldsC F P ops C oi v a →
      wpAnyC F n P md ops C Q fuel (listed.setIfInBounds i true) (a.put oi.dst v) w → wpAnyC F n P md ops C Q (fuel + 1) listed a w := by
  intro fuel
  induction fuel with
  | zero =>
    intro listed a w _ hr hC hy H
    refine ⟨fun h => (by rw [h] at hr; cases hr), fun j hj => ?_⟩
    by_cases hji : j = i
    · subst hji; exact hy.wpOpIn (fun c => hdef _ oi c hi) hi hC ⟨hC, H⟩
    · have := ready_mono hj hji
      rw [H.1] at this
      cases this
  | succ fuel ih =>
    intro listed a w hfree hr hC hy H
    refine ⟨fun h => (by rw [h] at hr; cases hr), fun j hj => ?_⟩
    by_cases hji : j = i
    · subst hji; exact hy.wpOpIn (fun c => hdef _ oi c hi) hi hC ⟨hC, H⟩
    · have h1 := H.2 j (ready_mono hj hji)
      obtain ⟨hjun, oj, hoj, hall⟩ := mem_ready.1 hj
      have hnot : ∀ e ∈ oj.after, Region.binds md e = true → e.on ≠ i := fun e he hb heq => by
        have h1 := hall e he hb
        have h0 := (mem_ready.1 hr).1
        rw [heq] at h1
        rcases Nat.lt_or_ge i listed.size with h' | h'
        · simp [h'] at h0 h1; rw [h0] at h1; cases h1
        · simp [Array.getElem?_eq_none h'] at h1
      have h2 := wpOpIn_putC (fun c => hdef j oj c hoj) hoj (hfree j oj hoj hji hjun hnot) (fun cs b => hsel i oi cs b hi) (fun cs b => hsel j oj cs b hoj) hQ hy h1
      have hfree' : ∀ k ok, ops[k]? = some ok → k ≠ i → (listed.setIfInBounds j true).getD k true = false →
          (∀ e ∈ ok.after, Region.binds md e = true → e.on ≠ i) → oi.apart ops ok = true := fun k ok hk hki hun hno => by
        refine hfree k ok hk hki ?_ hno
        by_cases hjk : j = k
        · subst hjk; exact hjun
        · rw [getD_set_ne true hjk] at hun; exact hun
      refine wpOpIn_mono (fun a' w' h3 => ⟨h3.2.1, ih (listed.setIfInBounds j true) a' w' hfree' (ready_mono hr (Ne.symm hji)) h3.2.1 h3.1 ?_⟩) h2
      rw [Array.setIfInBounds_comm _ _ hji]
      exact h3.2.2

theorem wpAnyC_take {i : Nat} {oi : Oper} {v : Value} {fuel : Nat} {listed : Array Bool} {a : Act} {w : World} (hi : ops[i]? = some oi)
    (hd : noDefer ops = true) (hs : Region.noSelect ops = true) (hf : Region.free md ops listed i = true) (hr : (Region.ready md ops listed).contains i = true)
    (hQ : ∀ c a w, Q (.panic c) (a.put oi.dst v) w → Q (.panic c) a w) (hC : C w) (hy : YieldsC F P ops C oi v a)
    (h : wpAnyC F n P md ops C Q fuel (listed.setIfInBounds i true) (a.put oi.dst v) w) : wpAnyC F n P md ops C Q (fuel + 1) listed a w :=
  wpAnyC_first (noDefer_spec hd) hi (Region.noSelect_spec hs) hQ fuel listed a w (Region.free_spec hi hf) (by simpa using hr) hC hy h

theorem wpAnyC_done {listed : Array Bool} {a : Act} {w : World} (hr : Region.ready md ops listed = []) (h : Q .normal a w) :
    ∀ fuel, wpAnyC F n P md ops C Q fuel listed a w
  | 0 => ⟨hr, h⟩
  | _ + 1 => ⟨fun _ => h, by rw [hr]; simp⟩

def AllReadyC (F : Fence) (n : Nat) (P : Program) (md : Region.Mode) (ops : Array Oper) (C : World → Prop) (Q : Exit → Act → World → Prop) (fuel : Nat) (listed : Array Bool) (a : Act) (w : World) (rs : List Nat) : Prop :=
  ∀ i ∈ rs, wpOpIn F n P ops Q i (fun a' w' => C w' ∧ wpAnyC F n P md ops C Q fuel (listed.setIfInBounds i true) a' w') a w
theorem AllReadyC.nil {fuel : Nat} {listed : Array Bool} {a : Act} {w : World} : AllReadyC F n P md ops C Q fuel listed a w [] := fun _ h => by cases h
theorem AllReadyC.cons {fuel : Nat} {listed : Array Bool} {a : Act} {w : World} {i : Nat} {o : Oper} {rs : List Nat} (ho : ops[i]? = some o)
    (h : ∀ K' : Act → World → Prop, (∀ a w, C w → wpAnyC F n P md ops C Q fuel (listed.setIfInBounds i true) a w → K' a w) → if Region.wanted o (yielded ops a.tmps) = true then Oper.wpIn F n P o a w K' Q else (∀ f, o.about P w a.eval = some f → F.fn f) ∧ K' (a.put o.dst undef) w)
    (hs : AllReadyC F n P md ops C Q fuel listed a w rs) : AllReadyC F n P md ops C Q fuel listed a w (i :: rs) := fun j hj => by
  rcases List.mem_cons.1 hj with rfl | hj
  · exact wpOpIn_step ho fun K' hK => h K' fun a w h1 h2 => hK a w ⟨h1, h2⟩
  · exact hs j hj
theorem wpAnyC_ready {rs : List Nat} {fuel : Nat} {listed : Array Bool} {a : Act} {w : World} (hr : Region.ready md ops listed = rs) (hne : rs ≠ [])
    (h : AllReadyC F n P md ops C Q fuel listed a w rs) : wpAnyC F n P md ops C Q (fuel + 1) listed a w :=
  ⟨fun h0 => absurd (hr ▸ h0) hne, hr ▸ h⟩
/-- No way but the plain one. -/
def calmQ (Q : Exit → Act → World → Prop) : Exit → Act → World → Prop
  | .normal, a, w => Q .normal a w
  | _, _, _ => False
/-- A region that draws its order, each step's world of the class. -/
theorem wpIn_region_class (C : World → Prop) {id : Nat} {a : Act} {w : World} (hm : P.follows .mixedOrders = true)
    (h : wpAnyC F n P .any ops C (calmQ Q) ops.size (Array.replicate ops.size false) a w.drew) : (Code.region id ops true).wpIn F n P Q a w :=
  wpIn_mono (wpIn_region_any (Q := calmQ Q) hm (wpAnyC_out _ _ _ _ h)) fun e a w he => by
    cases e with
    | normal => exact he
    | _ => exact he.elim
end
end Go.Proofs.YthnngndnpigjbaaGreat

namespace Go.Proofs.YthnngndnpigjbaaGreat
open Go.RowKit
section
variable {P : Program}
/-- Each value is laid into a box of its own; the world ahead of the box is told. -/
theorem rangeKB {α : Type} {n : Nat} {g : Operand} {ps : Array Tmp} {assign body : Code} {Q : Exit → Act → World → Prop} {a : Act} {w : World}
    {gf : Nat} {lb : Array Value} (hg : a.eval g = .func (.func gf) #[] lb) (eg : ∀ args w, (callFunc gf args).run P w = .ok (.enter gf args) w)
    {encs : α → Array Value} {K : Nat → Prop} {L : List α} {w0 : World} (hseq : SeqK P gf lb encs K L w0)
    (hb : ∀ i, K i → i < w.heap.size) (hb0 : Below w0.heap.size w0 w) (hps : ∀ x, (encs x).size = ps.size)
    (I : List α → World → Prop) (Ix : Code → List α → World → Prop) (hI : ∀ s A A', I s A → Out w.heap.size (w.heap.size + 2) A A' → I s A') (hIx : ∀ c s A A', Ix c s A → Out w.heap.size (w.heap.size + 2) A A' → Ix c s A')
    (h0 : I [] w) (o : α → Obj) (a₁ : α → Nat → Act)
    (hassign : ∀ (l : Nat) (x : α) (W : World) (g : Nat) (K : Act → World → Prop), g = W.heap.size → K (a₁ x g) (W.alloc (o x)) →
      assign.wpIn (Fence.wide.inRound l) (n - 1 - 1) P (Exit.then K (fun _ _ _ => False)) { tmps := (ps.zip (encs x)).foldl (fun t (p, v) => t.setIfInBounds p v) a.tmps, defers := [] } W)
    (hbody : ∀ (l : Nat) (pre : List α) (x : α) (g : Nat) (W : World), w.heap.size + 2 ≤ g → g + 1 = W.heap.size → W.heap[g]? = some (o x) → (∃ U, I pre U ∧ g = U.heap.size ∧ Out w.heap.size (w.heap.size + 2) U W) → pre ++ [x] <+: L → body.wpIn (Fence.wide.inRound l) (n - 1 - 1) P (postK (fun i => (w.heap.size ≤ i ∧ i < w.heap.size + 2) ∨ K i) I Ix (pre ++ [x]) W) (a₁ x g) W)
    (hdone : ∀ (D : Nat) (W : World), w.heap.size = D → I L W → W.heap[D]? = some (.deferred (some [])) → Q .normal { a with defers := { target := .collected D, args := #[] } :: a.defers } W)
    (hstop : ∀ (D : Nat) (c : Code) (pre : List α) (W : World), w.heap.size = D → pre <+: L → Ix c pre W → W.heap[D]? = some (.deferred (some [])) → c.wpIn Fence.wide n P Q { a with defers := { target := .collected D, args := #[] } :: a.defers } W) :
    (Code.rangeFunc g ps assign body).wpIn Fence.wide n P Q a w := by
  refine wpIn_rangeFunc fun fn hfn => ?_
  rw [show Fence.wide.round = none from rfl]
  obtain ⟨rec, hrec⟩ : ∃ rec : LoopState → Option Code → Loop, rec = fun st pe => { state := st, pending := pe, fn, tmps := a.tmps, params := ps, assign, body, defers := w.heap.size } := ⟨_, rfl⟩
  obtain ⟨V, hV⟩ : ∃ V, (w.alloc (.deferred (some []))).alloc (.loop (rec .ready none)) = V := ⟨_, rfl⟩
  have hsz : V.heap.size = w.heap.size + 2 := by rw [← hV]; simp
  have vL : V.heap[w.heap.size + 1]? = some (.loop (rec .ready none)) := by
    rw [← hV]; have := World.alloc_heap_new (w.alloc (.deferred (some []))) (.loop (rec .ready none)); rwa [World.size_alloc] at this
  have vD : V.heap[w.heap.size]? = some (.deferred (some [])) := by
    rw [← hV]; exact (Below.heap_alloc _ _ _ (by simp)).trans (World.alloc_heap_new w _)
  have vW : Below w.heap.size w V := by
    rw [← hV]; exact ((Below.refl _ w).alloc (Nat.le_refl _) _).alloc (by simp) _
  have vB : Below w0.heap.size w0 V := hb0.trans (vW.mono hb0.size)
  refine ⟨w.heap.size + 1, [{ target := .collected w.heap.size, args := #[] }], V, { target := .fn (.func gf) lb, args := #[.func (.yield (w.heap.size + 1)) #[] #[]] }, V, gf,
    #[.func (.yield (w.heap.size + 1)) #[] #[]] ++ lb, V, ?_, ?_, ?_, ?_, fun h => by simp [Fence.wide] at h, ?_⟩
  · rw [← hV, hrec]; exact run_enterLoop_outer _ _ _ _ _
  · simp only [resolve, hg]; simp [go_sem]
  · intro f' hf'; simp [Target.leads] at hf'; subst hf'; trivial
  · simp [invoke, go_sem, eg]
  refine (hseq (n - 1) (w.heap.size + 1)
    (fun pre W => I pre W ∧ W.heap[w.heap.size + 1]? = some (.loop (rec .ready none)) ∧ W.heap[w.heap.size]? = some (.deferred (some [])))
    (fun pre W => (∃ c, Ix c pre W ∧ W.heap[w.heap.size + 1]? = some (.loop (rec .done (some c)))) ∧ W.heap[w.heap.size]? = some (.deferred (some [])))
    V vB ?keepJ ?keepX ?round ?start).mono ?behind
  case keepJ =>
    rintro s A B ⟨hi, hl, hk⟩ ho
    have h2 := (Array.getElem?_eq_some_iff.1 hl).1
    exact ⟨hI _ _ _ hi (.of_below ho), (ho.block _ h2).trans hl, (ho.block _ (by omega)).trans hk⟩
  case keepX =>
    rintro s A B ⟨⟨c, hc, hl⟩, hk⟩ ho
    have h2 := (Array.getElem?_eq_some_iff.1 hl).1
    exact ⟨⟨c, hIx _ _ _ _ hc (.of_below ho), (ho.block _ h2).trans hl⟩, (ho.block _ (by omega)).trans hk⟩
  case start =>
    exact ⟨hI _ _ _ h0 (.of_below vW), vL, vD⟩
  case behind =>
    rintro e W2 ⟨⟨v, rfl⟩, h | ⟨pre, hpre, ⟨c, h, hl⟩, hk⟩⟩
    · obtain ⟨hi, hl, hk⟩ := h
      have hrun := run_endLoop (P := P) hl (by rw [hrec]; simp)
      rw [hrec] at hrun
      exact ⟨none, _, hrun, hdone _ _ rfl (hI _ _ _ hi (.put _ (by omega))) ((World.putObj_heap_other (by omega)).trans hk)⟩
    · have hrun := run_endLoop (P := P) hl (by rw [hrec]; simp)
      rw [hrec] at hrun
      exact ⟨some c, _, hrun, hstop _ c pre _ rfl hpre (hIx _ _ _ _ h (.put _ (by omega))) ((World.putObj_heap_other (by omega)).trans hk)⟩
  case round =>
    rintro pre x W ⟨hi, hl, hk⟩ hpre
    have hlt : w.heap.size + 1 < W.heap.size := (Array.getElem?_eq_some_iff.1 hl).1
    have hy := run_yield (P := P) (args := encs x) hl (by rw [hrec]; exact hps x)
    rw [hrec] at hy
    have hl1 : (W.alloc (o x)).heap[w.heap.size + 1]? = some (.loop (rec .ready none)) := (Below.heap_alloc W (o x) _ hlt).trans hl
    have hk1 : (W.alloc (o x)).heap[w.heap.size]? = some (.deferred (some [])) := (Below.heap_alloc W (o x) _ (by omega)).trans hk
    have hlt1 : w.heap.size + 1 < (W.alloc (o x)).heap.size := by rw [World.size_alloc]; omega
    have hi1 : I pre (W.alloc (o x)) := hI _ _ _ hi (.of_below ((Below.refl _ _).alloc (Nat.le_refl _) _))
    have hKn : ∀ i, K i → i ≠ w.heap.size + 1 := fun i h e => by have := hb i h; omega
    refine yield_deep (n := n - 1 - 1) ⟨fn, _, assign, body, hy, roundIn_of_wpIn hfn (hassign _ x W _ _ rfl ⟨_, run_beginRound hl1 (by rw [hrec]), ?_⟩)⟩
    generalize hW2 : (W.alloc (o x)).putObj (w.heap.size + 1) (.loop { rec .ready none with state := .busy }) = W2
    have bL : W2.heap[w.heap.size + 1]? = some (.loop { rec .ready none with state := .busy }) := by rw [← hW2]; exact World.putObj_heap_same hlt1
    have bD : W2.heap[w.heap.size]? = some (.deferred (some [])) := by rw [← hW2]; exact (World.putObj_heap_other (by omega)).trans hk1
    have bK : KeepS K W W2 := by rw [← hW2]; exact ((KeepS.refl _ W).alloc (o x)).trans (.put _ (fun h => hKn _ h rfl))
    have bI : I pre W2 := by rw [← hW2]; exact hI _ _ _ hi1 (.put _ (by omega))
    have bO : Out w.heap.size (w.heap.size + 2) W W2 := by rw [← hW2]; exact (Out.of_below ((Below.refl _ W).alloc (Nat.le_refl _) (o x))).trans (.put _ (by omega))
    have bG : W2.heap[W.heap.size]? = some (o x) := by rw [← hW2]; exact (World.putObj_heap_other (by omega)).trans (World.alloc_heap_new W _)
    have bS : W.heap.size + 1 = W2.heap.size := by rw [← hW2]; simp
    refine wpIn_mono (hbody _ pre x W.heap.size W2 (by omega) bS bG ⟨W, hi, rfl, bO⟩ hpre) ?_
    have shut : ∀ (jump : Option Code) (W3 : World), KeepS (fun i => (w.heap.size ≤ i ∧ i < w.heap.size + 2) ∨ K i) W2 W3 →
        (Instr.endRound (w.heap.size + 1) jump).run P W3 = .ok (.bool jump.isNone) (W3.putObj (w.heap.size + 1) (.loop (rec (if jump.isNone then .ready else .done) jump))) ∧
        (W3.putObj (w.heap.size + 1) (.loop (rec (if jump.isNone then .ready else .done) jump))).heap[w.heap.size + 1]? = some (.loop (rec (if jump.isNone then .ready else .done) jump)) ∧
        (W3.putObj (w.heap.size + 1) (.loop (rec (if jump.isNone then .ready else .done) jump))).heap[w.heap.size]? = some (.deferred (some [])) ∧
        KeepS K W (W3.putObj (w.heap.size + 1) (.loop (rec (if jump.isNone then .ready else .done) jump))) := fun jump W3 h3 => by
      have z2 := bK.size
      have l3 := (h3.same _ (by omega) (.inl ⟨by omega, by omega⟩)).trans bL
      have hend := run_endRound (P := P) jump l3
      rw [hrec] at hend ⊢
      rw [hrec] at l3
      have h3' : KeepS K W2 W3 := h3.mono fun i h => .inr h
      exact ⟨hend, World.putObj_heap_same (Array.getElem?_eq_some_iff.1 l3).1, (World.putObj_heap_other (by omega)).trans ((h3.same _ (by omega) (.inl ⟨by omega, by omega⟩)).trans bD), (bK.trans h3').trans (.put _ (fun h => hKn _ h rfl))⟩
    have leave : ∀ (cd : Code) (W3 : World), KeepS (fun i => (w.heap.size ≤ i ∧ i < w.heap.size + 2) ∨ K i) W2 W3 → Ix cd (pre ++ [x]) W3 → ∃ v W4, (Instr.endRound (w.heap.size + 1) (some cd)).run P W3 = .ok v W4 ∧ v = .bool false ∧
        ((∃ c, Ix c (pre ++ [x]) W4 ∧ W4.heap[w.heap.size + 1]? = some (.loop (rec .done (some c)))) ∧ W4.heap[w.heap.size]? = some (.deferred (some []))) := fun cd W3 h3 hi3 => by
      obtain ⟨hr, hl4, hk4, hkp⟩ := shut (some cd) W3 h3
      exact ⟨_, _, hr, rfl, ⟨⟨cd, hIx _ _ _ _ hi3 (.put _ (by omega)), hl4⟩, hk4⟩⟩
    rintro e a3 W3 hp
    cases e with
    | normal =>
      obtain ⟨h3, hi3⟩ := hp
      obtain ⟨hr, hl4, hk4, hkp⟩ := shut none W3 h3
      exact ⟨_, _, hr, .inl ⟨rfl, ⟨hI _ _ _ hi3 (.put _ (by omega)), hl4, hk4⟩, hkp⟩⟩
    | ret =>
      obtain ⟨v, W4, hr, rfl, h⟩ := leave .ret W3 hp.1 hp.2
      exact ⟨_, _, hr, .inr ⟨rfl, h⟩⟩
    | exit id =>
      obtain ⟨v, W4, hr, rfl, h⟩ := leave (.exit id) W3 hp.1 hp.2
      exact ⟨_, _, hr, .inr ⟨rfl, h⟩⟩
    | goto t =>
      obtain ⟨v, W4, hr, rfl, h⟩ := leave (.goto t) W3 hp.1 hp.2
      exact ⟨_, _, hr, .inr ⟨rfl, h⟩⟩
    | panic ch => exact hp.elim
    | outgrown => exact hp.elim
end
end Go.Proofs.YthnngndnpigjbaaGreat

namespace Go.Proofs.YthnngndnpigjbaaGreat

section
variable {P : Program} {ops : Array Oper} {Q : Exit → Act → World → Prop} {md : Region.Mode} {C : World → Prop}

/-- Whatever order is picked from here on, each step's world is of the class. -/
def wpAnyP (P : Program) (md : Region.Mode) (ops : Array Oper) (C : World → Prop) (Q : Exit → Act → World → Prop) : Nat → Array Bool → Act → World → Prop
  | 0, listed, a, w => Region.ready md ops listed = [] ∧ Q .normal a w
  | fuel + 1, listed, a, w =>
    (Region.ready md ops listed = [] → Q .normal a w) ∧
    ∀ i ∈ Region.ready md ops listed, wpOp P ops Q i (fun a' w' => C w' ∧ wpAnyP P md ops C Q fuel (listed.setIfInBounds i true) a' w') a w

theorem wpAnyP_out : ∀ (fuel : Nat) (listed : Array Bool) (a : Act) (w : World), wpAnyP P md ops C Q fuel listed a w → wpAny P md ops Q fuel listed a w
  | 0, _, _, _, h => h
  | fuel + 1, _, _, _, h => ⟨h.1, fun i hi => wpOp_mono (fun a' w' h' => wpAnyP_out fuel _ a' w' h'.2) (h.2 i hi)⟩

/-- In every world of the class the operation leaves v, and turns nothing. -/
structure YieldsP (P : Program) (ops : Array Oper) (C : World → Prop) (o : Oper) (v : Value) (a : Act) : Prop where
  val : (Region.wanted o (yielded ops a.tmps) = true ∧ ∀ w, C w → (execOp a.eval o).run P w = .ok (.value v) w) ∨ (Region.wanted o (yielded ops a.tmps) = false ∧ v = undef)

theorem YieldsP.wpOp {i : Nat} {o : Oper} {v : Value} {a : Act} (hi : ops[i]? = some o) (hy : YieldsP P ops C o v a)
    {K : Act → World → Prop} {w : World} (hC : C w) (h : K (a.put o.dst v) w) : wpOp P ops Q i K a w := by
  unfold Go.wpOp
  simp only [hi]
  rcases hy.val with ⟨hw, hv⟩ | ⟨hw, rfl⟩
  · simp only [hw, if_true, Oper.wp, hv w hC, Oper.upon]; exact .inl h
  · simp only [hw, Bool.false_eq_true, if_false]; exact h
theorem YieldsP.of_same {o : Oper} {v : Value} {a a' : Act} (hy : YieldsP P ops C o v a) (he : execOp a'.eval o = execOp a.eval o)
    (hw : Region.wanted o (yielded ops a'.tmps) = Region.wanted o (yielded ops a.tmps)) : YieldsP P ops C o v a' := ⟨by rw [he, hw]; exact hy.val⟩
theorem wpOp_putP {j : Nat} {oi oj : Oper} {v : Value} (hj : ops[j]? = some oj) (hap : oi.apart ops oj = true)
    (hsi : ∀ cs b, oi.op ≠ .select cs b) (hsj : ∀ cs b, oj.op ≠ .select cs b)
    (hQ : ∀ c a w, Q (.panic c) (a.put oi.dst v) w → Q (.panic c) a w) {K : Act → World → Prop} {a : Act} {w : World}
    (hy : YieldsP P ops C oi v a) (h : wpOp P ops Q j K (a.put oi.dst v) w) :
    wpOp P ops Q j (fun a' w' => YieldsP P ops C oi v a' ∧ K (a'.put oi.dst v) w') a w := by
  obtain ⟨h1, h2, h3⟩ := Oper.apart_spec hap
  have keep : ∀ (a : Act), YieldsP P ops C oi v a → ∀ u, YieldsP P ops C oi v (a.put oj.dst u) := fun a hy u =>
    hy.of_same (execOp_put oi hsi a oj.dst u h3) (wanted_put oi a oj.dst u h3)
  have keepD : ∀ d, YieldsP P ops C oi v { a with defers := d :: a.defers } := fun d => hy.of_same rfl rfl
  unfold wpOp at *
  simp only [hj] at *
  rw [wanted_put oj a oi.dst v h1] at h
  split
  · rename_i hw
    simp only [hw, if_true] at h
    rcases h with h | ⟨hasks, hlets⟩
    case inr => exact .inr ⟨by unfold Oper.asks at *; rw [execOp_put oj hsj a oi.dst v h1] at hasks; exact hasks, hlets⟩
    refine .inl ?_
    unfold Oper.wp at *
    rw [execOp_put oj hsj a oi.dst v h1] at h
    generalize (execOp a.eval oj).run P w = r at *
    cases r with
    | ok n w' =>
      cases n <;> simp only [Oper.upon] at h ⊢
      case value u => exact ⟨keep a hy u, by rw [← Act.put_comm a v u h2]; exact h⟩
      case skip => exact ⟨keep a hy _, by rw [← Act.put_comm a v undef h2]; exact h⟩
      case defer d =>
        refine ⟨keep _ (keepD d) _, ?_⟩
        rw [← Act.put_comm _ v undef h2, ← Act.put_defers]
        exact h
      case enter f args =>
        refine Calls.mono h fun e w'' he => ?_
        cases e with
        | returned u => exact ⟨keep a hy u, by rw [← Act.put_comm a v u h2]; exact he⟩
        | panicked c => exact hQ _ _ _ he
        | outgrown => exact he
      case row row args => exact Rows.mono h fun u w'' he => ⟨keep a hy u, by rw [← Act.put_comm a v u h2]; exact he⟩
    | halt x w' =>
      cases x <;> simp only [Oper.upon] at h ⊢
      case panic u => exact hQ _ _ _ h
  · rename_i hw
    simp only [hw] at h
    exact ⟨keep a hy _, by rw [← Act.put_comm a v undef h2]; exact h⟩

theorem wpAnyP_first {i : Nat} {oi : Oper} {v : Value} (hi : ops[i]? = some oi) (hsel : ∀ (j : Nat) (o : Oper) cs b, ops[j]? = some o → o.op ≠ .select cs b)
    (hQ : ∀ c a w, Q (.panic c) (a.put oi.dst v) w → Q (.panic c) a w) :
    ∀ (fuel : Nat) (listed : Array Bool) (a : Act) (w : World),
      (∀ j oj, ops[j]? = some oj → j ≠ i → listed.getD j true = false → (∀ e ∈ oj.after, Region.binds md e = true → e.on ≠ i) → oi.apart ops oj = true) →
      i ∈ Region.ready md ops listed → C w → YieldsP P ops C oi v a →
      wpAnyP P md ops C Q fuel (listed.setIfInBounds i true) (a.put oi.dst v) w → wpAnyP P md ops C Q (fuel + 1) listed a w := by
  intro fuel
  induction fuel with
  | zero =>
    intro listed a w _ hr hC hy H
    refine ⟨fun h => (by rw [h] at hr; cases hr), fun j hj => ?_⟩
    by_cases hji : j = i
    · subst hji; exact hy.wpOp hi hC ⟨hC, H⟩
    · have := ready_mono hj hji
      rw [H.1] at this
      cases this
  | succ fuel ih =>
    intro listed a w hfree hr hC hy H
    refine ⟨fun h => (by rw [h] at hr; cases hr), fun j hj => ?_⟩
    by_cases hji : j = i
    · subst hji; exact hy.wpOp hi hC ⟨hC, H⟩
    · have h1 := H.2 j (ready_mono hj hji)
      obtain ⟨hjun, oj, hoj, hall⟩ := mem_ready.1 hj
      have hnot : ∀ e ∈ oj.after, Region.binds md e = true → e.on ≠ i := fun e he hb heq => by
        have h1 := hall e he hb
        have h0 := (mem_ready.1 hr).1
        rw [heq] at h1
        rcases Nat.lt_or_ge i listed.size with h' | h'
        · simp [h'] at h0 h1; rw [h0] at h1; cases h1
        · simp [Array.getElem?_eq_none h'] at h1
      have h2 := wpOp_putP hoj (hfree j oj hoj hji hjun hnot) (fun cs b => hsel i oi cs b hi) (fun cs b => hsel j oj cs b hoj) hQ hy h1
      have hfree' : ∀ k ok, ops[k]? = some ok → k ≠ i → (listed.setIfInBounds j true).getD k true = false →
          (∀ e ∈ ok.after, Region.binds md e = true → e.on ≠ i) → oi.apart ops ok = true := fun k ok hk hki hun hno => by
        refine hfree k ok hk hki ?_ hno
        by_cases hjk : j = k
        · subst hjk; exact hjun
        · rw [getD_set_ne true hjk] at hun; exact hun
      refine wpOp_mono (fun a' w' h3 => ⟨h3.2.1, ih (listed.setIfInBounds j true) a' w' hfree' (ready_mono hr (Ne.symm hji)) h3.2.1 h3.1 ?_⟩) h2
      rw [Array.setIfInBounds_comm _ _ hji]
      exact h3.2.2

theorem wpAnyP_take {i : Nat} {oi : Oper} {v : Value} {fuel : Nat} {listed : Array Bool} {a : Act} {w : World} (hi : ops[i]? = some oi)
    (hs : Region.noSelect ops = true) (hf : Region.free md ops listed i = true) (hr : (Region.ready md ops listed).contains i = true)
    (hQ : ∀ c a w, Q (.panic c) (a.put oi.dst v) w → Q (.panic c) a w) (hC : C w) (hy : YieldsP P ops C oi v a)
    (h : wpAnyP P md ops C Q fuel (listed.setIfInBounds i true) (a.put oi.dst v) w) : wpAnyP P md ops C Q (fuel + 1) listed a w :=
  wpAnyP_first hi (Region.noSelect_spec hs) hQ fuel listed a w (Region.free_spec hi hf) (by simpa using hr) hC hy h

theorem wpAnyP_done {listed : Array Bool} {a : Act} {w : World} (hr : Region.ready md ops listed = []) (h : Q .normal a w) :
    ∀ fuel, wpAnyP P md ops C Q fuel listed a w
  | 0 => ⟨hr, h⟩
  | _ + 1 => ⟨fun _ => h, by rw [hr]; simp⟩

def AllReadyP (P : Program) (md : Region.Mode) (ops : Array Oper) (C : World → Prop) (Q : Exit → Act → World → Prop) (fuel : Nat) (listed : Array Bool) (a : Act) (w : World) (rs : List Nat) : Prop :=
  ∀ i ∈ rs, wpOp P ops Q i (fun a' w' => C w' ∧ wpAnyP P md ops C Q fuel (listed.setIfInBounds i true) a' w') a w
theorem AllReadyP.nil {fuel : Nat} {listed : Array Bool} {a : Act} {w : World} : AllReadyP P md ops C Q fuel listed a w [] := fun _ h => by cases h
theorem AllReadyP.cons {fuel : Nat} {listed : Array Bool} {a : Act} {w : World} {i : Nat} {o : Oper} {rs : List Nat} (ho : ops[i]? = some o)
    (h : ∀ K' : Act → World → Prop, (∀ a w, C w → wpAnyP P md ops C Q fuel (listed.setIfInBounds i true) a w → K' a w) → if Region.wanted o (yielded ops a.tmps) = true then Oper.wp P o a w K' Q else K' (a.put o.dst undef) w)
    (hs : AllReadyP P md ops C Q fuel listed a w rs) : AllReadyP P md ops C Q fuel listed a w (i :: rs) := fun j hj => by
  rcases List.mem_cons.1 hj with rfl | hj
  · exact wpOp_step ho fun K' hK => h K' fun a w h1 h2 => hK a w ⟨h1, h2⟩
  · exact hs j hj
theorem wpAnyP_ready {rs : List Nat} {fuel : Nat} {listed : Array Bool} {a : Act} {w : World} (hr : Region.ready md ops listed = rs) (hne : rs ≠ [])
    (h : AllReadyP P md ops C Q fuel listed a w rs) : wpAnyP P md ops C Q (fuel + 1) listed a w :=
  ⟨fun h0 => absurd (hr ▸ h0) hne, hr ▸ h⟩
/-- No way but the plain one. -/
def calmP (Q : Exit → Act → World → Prop) : Exit → Act → World → Prop
  | .normal, a, w => Q .normal a w
  | _, _, _ => False
/-- A region that draws its order, each step's world of the class. -/
theorem wp_region_class (C : World → Prop) {id : Nat} {a : Act} {w : World} (hm : P.follows .mixedOrders = true)
    (h : wpAnyP P .any ops C (calmP Q) ops.size (Array.replicate ops.size false) a w.drew) : (Code.region id ops true).wp P Q a w :=
  wp_mono (wp_region_any (Q := calmP Q) hm (wpAnyP_out _ _ _ _ h)) fun e a w he => by
    cases e with
    | normal => exact he
    | _ => exact he.elim
end
end Go.Proofs.YthnngndnpigjbaaGreat
