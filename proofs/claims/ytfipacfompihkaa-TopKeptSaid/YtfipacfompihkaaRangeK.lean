/- A range over a function whose iterator has no box of its own, where the body may turn whatever is not kept for the iterator. Plain: no program in sight. (Turned from XRangeM's law.) Conditions: none. -/
import Derived.Test.YtfipacfompihkaaRangeN
namespace Go.Proofs.Ytfipacfompihkaa
open Go.RowKit
variable {P : Program}

/-- What is named lies as it lay; nothing has gone. -/
structure KeepS (S : Nat → Prop) (W W' : World) : Prop where
  size : W.heap.size ≤ W'.heap.size
  same : ∀ i, i < W.heap.size → S i → W'.heap[i]? = W.heap[i]?
section
variable {S : Nat → Prop} {U V W : World}
theorem KeepS.refl (S : Nat → Prop) (W : World) : KeepS S W W := ⟨Nat.le_refl _, fun _ _ _ => rfl⟩
theorem KeepS.trans (h : KeepS S U V) (k : KeepS S V W) : KeepS S U W :=
  ⟨Nat.le_trans h.size k.size, fun i hi h1 => (k.same i (Nat.lt_of_lt_of_le hi h.size) h1).trans (h.same i hi h1)⟩
theorem KeepS.of_below (h : Below U.heap.size U V) : KeepS S U V := ⟨h.size, fun i hi _ => h.block i hi⟩
theorem KeepS.put {l : Nat} (o : Obj) (h : ¬ S l) : KeepS S U (U.putObj l o) :=
  ⟨by simp, fun i _ h1 => World.putObj_heap_other (by rintro rfl; exact h h1)⟩
theorem KeepS.cell {a : Addr} (v : Value) (h : ¬ S a.block) : KeepS S U (U.setCell a v) :=
  ⟨by simp [World.setCell], fun i _ h1 => Below.heap_setCell _ _ _ _ (by rintro rfl; exact h h1)⟩
theorem KeepS.alloc (h : KeepS S U V) (o : Obj) : KeepS S U (V.alloc o) := h.trans (.of_below ((Below.refl _ _).alloc (Nat.le_refl _) _))
theorem KeepS.drew (h : KeepS S U V) : KeepS S U V.drew := ⟨h.size, h.same⟩
theorem KeepS.grown {row : Option Nat} (h : KeepS S U V) (hg : V.grownBy W row) (hr : ∀ i, row = some i → ¬ S i) : KeepS S U W :=
  h.trans ⟨hg.size, fun i hi h1 => hg.block i hi (fun e => hr i e.symm h1)⟩
theorem KeepS.mono {S' : Nat → Prop} (h : KeepS S U V) (hs : ∀ i, S' i → S i) : KeepS S' U V := ⟨h.size, fun i hi h1 => h.same i hi (hs i h1)⟩
end
/-- The iterator calls its round with the values of L, one behind the other, till one says no more; it turns nothing; what is in K is kept for it. -/
def SeqK {α : Type} (P : Program) (g : Nat) (lb : Array Value) (encs : α → Array Value) (K : Nat → Prop) (L : List α) (w : World) : Prop :=
  ∀ (n : Nat) (l : Nat) (J Jx : List α → World → Prop) (W : World), Below w.heap.size w W →
    (∀ s A A', J s A → Below A.heap.size A A' → J s A') → (∀ s A A', Jx s A → Below A.heap.size A A' → Jx s A') →
    (∀ pre x W1, J pre W1 → pre ++ [x] <+: L → YieldAt Fence.wide n P l (encs x) W1 fun e W' =>
      (e = .returned (.bool true) ∧ J (pre ++ [x]) W' ∧ KeepS K W1 W') ∨ (e = .returned (.bool false) ∧ Jx (pre ++ [x]) W')) →
    J [] W →
    CallsIn Fence.wide n P g (#[.func (.yield l) #[] #[]] ++ lb) W fun e W' => (∃ v, e = .returned v) ∧ (J L W' ∨ ∃ pre, pre <+: L ∧ Jx pre W')

/-- What a round owes. -/
def postK {α : Type} (S : Nat → Prop) (I : List α → World → Prop) (Ix : Code → List α → World → Prop) (xs : List α) (W : World) : Exit → Act → World → Prop
  | .normal, _, W' => KeepS S W W' ∧ I xs W'
  | .ret, _, W' => KeepS S W W' ∧ Ix .ret xs W'
  | .exit id, _, W' => KeepS S W W' ∧ Ix (.exit id) xs W'
  | .goto t, _, W' => KeepS S W W' ∧ Ix (.goto t) xs W'
  | .panic _, _, _ => False
  | .outgrown, _, _ => False

/-- Each value is laid into a box of its own. -/
theorem rangeKA {α : Type} {n : Nat} {g : Operand} {ps : Array Tmp} {assign body : Code} {Q : Exit → Act → World → Prop} {a : Act} {w : World}
    {gf : Nat} {lb : Array Value} (hg : a.eval g = .func (.func gf) #[] lb) (eg : ∀ args w, (callFunc gf args).run P w = .ok (.enter gf args) w)
    {encs : α → Array Value} {K : Nat → Prop} {L : List α} {w0 : World} (hseq : SeqK P gf lb encs K L w0)
    (hb : ∀ i, K i → i < w.heap.size) (hb0 : Below w0.heap.size w0 w) (hps : ∀ x, (encs x).size = ps.size)
    (I : List α → World → Prop) (Ix : Code → List α → World → Prop) (hI : ∀ s A A', I s A → Out w.heap.size (w.heap.size + 2) A A' → I s A') (hIx : ∀ c s A A', Ix c s A → Out w.heap.size (w.heap.size + 2) A A' → Ix c s A')
    (h0 : I [] w) (o : α → Obj) (a₁ : α → Nat → Act)
    (hassign : ∀ (l : Nat) (x : α) (W : World) (g : Nat) (K : Act → World → Prop), g = W.heap.size → K (a₁ x g) (W.alloc (o x)) →
      assign.wpIn (Fence.wide.inRound l) (n - 1 - 1) P (Exit.then K (fun _ _ _ => False)) { tmps := (ps.zip (encs x)).foldl (fun t (p, v) => t.setIfInBounds p v) a.tmps, defers := [] } W)
    (hbody : ∀ (l : Nat) (pre : List α) (x : α) (g : Nat) (W : World), w.heap.size + 2 ≤ g → g + 1 = W.heap.size → W.heap[g]? = some (o x) → I pre W → pre ++ [x] <+: L → body.wpIn (Fence.wide.inRound l) (n - 1 - 1) P (postK (fun i => (w.heap.size ≤ i ∧ i < w.heap.size + 2) ∨ K i) I Ix (pre ++ [x]) W) (a₁ x g) W)
    (hdone : ∀ (D : Nat) (W : World), w.heap.size = D → I L W → W.heap[D]? = some (.deferred (some [])) → Q .normal { a with defers := { target := .collected D, args := #[] } :: a.defers } W)
    (hstop : ∀ (D : Nat) (c : Code) (pre : List α) (W : World), w.heap.size = D → pre <+: L → Ix c pre W → W.heap[D]? = some (.deferred (some [])) → c.wpIn Fence.wide n P Q { a with defers := { target := .collected D, args := #[] } :: a.defers } W) :
    (Code.rangeFunc g ps assign body).wpIn Fence.wide n P Q a w := by
  refine wpIn_rangeFunc fun fn hfn => ?_
  rw [show Fence.wide.round = none from rfl]
  obtain ⟨rec, hrec⟩ : ∃ rec : LoopState → Option Code → Loop, rec = fun st pe => { state := st, pending := pe, fn, tmps := a.tmps, params := ps, assign, body, defers := w.heap.size } := ⟨_, rfl⟩
  obtain ⟨V, hV⟩ : ∃ V, (w.alloc (.deferred (some []))).alloc (.loop (rec .ready none)) = V := ⟨_, rfl⟩
  have hsz : V.heap.size = w.heap.size + 2 := by rw [← hV]; simp
  have vL : V.heap[w.heap.size + 1]? = some (.loop (rec .ready none)) := by
    rw [← hV]; have := World.alloc_heap_new (w.alloc (.deferred (some []))) (.loop (rec .ready none)); rwa [World.size_alloc] at this
  have vD : V.heap[w.heap.size]? = some (.deferred (some [])) := by
    rw [← hV]; exact (Below.heap_alloc _ _ _ (by simp)).trans (World.alloc_heap_new w _)
  have vW : Below w.heap.size w V := by
    rw [← hV]; exact ((Below.refl _ w).alloc (Nat.le_refl _) _).alloc (by simp) _
  have vB : Below w0.heap.size w0 V := hb0.trans (vW.mono hb0.size)
  refine ⟨w.heap.size + 1, [{ target := .collected w.heap.size, args := #[] }], V, { target := .fn (.func gf) lb, args := #[.func (.yield (w.heap.size + 1)) #[] #[]] }, V, gf,
    #[.func (.yield (w.heap.size + 1)) #[] #[]] ++ lb, V, ?_, ?_, ?_, ?_, fun h => by simp [Fence.wide] at h, ?_⟩
  · rw [← hV, hrec]; exact run_enterLoop_outer _ _ _ _ _
  · simp only [resolve, hg]; simp [go_sem]
  · intro f' hf'; simp [Target.leads] at hf'; subst hf'; trivial
  · simp [invoke, go_sem, eg]
  refine (hseq (n - 1) (w.heap.size + 1)
    (fun pre W => I pre W ∧ W.heap[w.heap.size + 1]? = some (.loop (rec .ready none)) ∧ W.heap[w.heap.size]? = some (.deferred (some [])))
    (fun pre W => (∃ c, Ix c pre W ∧ W.heap[w.heap.size + 1]? = some (.loop (rec .done (some c)))) ∧ W.heap[w.heap.size]? = some (.deferred (some [])))
    V vB ?keepJ ?keepX ?round ?start).mono ?behind
  case keepJ =>
    rintro s A B ⟨hi, hl, hk⟩ ho
    have h2 := (Array.getElem?_eq_some_iff.1 hl).1
    exact ⟨hI _ _ _ hi (.of_below ho), (ho.block _ h2).trans hl, (ho.block _ (by omega)).trans hk⟩
  case keepX =>
    rintro s A B ⟨⟨c, hc, hl⟩, hk⟩ ho
    have h2 := (Array.getElem?_eq_some_iff.1 hl).1
    exact ⟨⟨c, hIx _ _ _ _ hc (.of_below ho), (ho.block _ h2).trans hl⟩, (ho.block _ (by omega)).trans hk⟩
  case start =>
    exact ⟨hI _ _ _ h0 (.of_below vW), vL, vD⟩
  case behind =>
    rintro e W2 ⟨⟨v, rfl⟩, h | ⟨pre, hpre, ⟨c, h, hl⟩, hk⟩⟩
    · obtain ⟨hi, hl, hk⟩ := h
      have hrun := run_endLoop (P := P) hl (by rw [hrec]; simp)
      rw [hrec] at hrun
      exact ⟨none, _, hrun, hdone _ _ rfl (hI _ _ _ hi (.put _ (by omega))) ((World.putObj_heap_other (by omega)).trans hk)⟩
    · have hrun := run_endLoop (P := P) hl (by rw [hrec]; simp)
      rw [hrec] at hrun
      exact ⟨some c, _, hrun, hstop _ c pre _ rfl hpre (hIx _ _ _ _ h (.put _ (by omega))) ((World.putObj_heap_other (by omega)).trans hk)⟩
  case round =>
    rintro pre x W ⟨hi, hl, hk⟩ hpre
    have hlt : w.heap.size + 1 < W.heap.size := (Array.getElem?_eq_some_iff.1 hl).1
    have hy := run_yield (P := P) (args := encs x) hl (by rw [hrec]; exact hps x)
    rw [hrec] at hy
    have hl1 : (W.alloc (o x)).heap[w.heap.size + 1]? = some (.loop (rec .ready none)) := (Below.heap_alloc W (o x) _ hlt).trans hl
    have hk1 : (W.alloc (o x)).heap[w.heap.size]? = some (.deferred (some [])) := (Below.heap_alloc W (o x) _ (by omega)).trans hk
    have hlt1 : w.heap.size + 1 < (W.alloc (o x)).heap.size := by rw [World.size_alloc]; omega
    have hi1 : I pre (W.alloc (o x)) := hI _ _ _ hi (.of_below ((Below.refl _ _).alloc (Nat.le_refl _) _))
    have hKn : ∀ i, K i → i ≠ w.heap.size + 1 := fun i h e => by have := hb i h; omega
    refine yield_deep (n := n - 1 - 1) ⟨fn, _, assign, body, hy, roundIn_of_wpIn hfn (hassign _ x W _ _ rfl ⟨_, run_beginRound hl1 (by rw [hrec]), ?_⟩)⟩
    generalize hW2 : (W.alloc (o x)).putObj (w.heap.size + 1) (.loop { rec .ready none with state := .busy }) = W2
    have bL : W2.heap[w.heap.size + 1]? = some (.loop { rec .ready none with state := .busy }) := by rw [← hW2]; exact World.putObj_heap_same hlt1
    have bD : W2.heap[w.heap.size]? = some (.deferred (some [])) := by rw [← hW2]; exact (World.putObj_heap_other (by omega)).trans hk1
    have bK : KeepS K W W2 := by rw [← hW2]; exact ((KeepS.refl _ W).alloc (o x)).trans (.put _ (fun h => hKn _ h rfl))
    have bI : I pre W2 := by rw [← hW2]; exact hI _ _ _ hi1 (.put _ (by omega))
    have bG : W2.heap[W.heap.size]? = some (o x) := by rw [← hW2]; exact (World.putObj_heap_other (by omega)).trans (World.alloc_heap_new W _)
    have bS : W.heap.size + 1 = W2.heap.size := by rw [← hW2]; simp
    refine wpIn_mono (hbody _ pre x W.heap.size W2 (by omega) bS bG bI hpre) ?_
    have shut : ∀ (jump : Option Code) (W3 : World), KeepS (fun i => (w.heap.size ≤ i ∧ i < w.heap.size + 2) ∨ K i) W2 W3 →
        (Instr.endRound (w.heap.size + 1) jump).run P W3 = .ok (.bool jump.isNone) (W3.putObj (w.heap.size + 1) (.loop (rec (if jump.isNone then .ready else .done) jump))) ∧
        (W3.putObj (w.heap.size + 1) (.loop (rec (if jump.isNone then .ready else .done) jump))).heap[w.heap.size + 1]? = some (.loop (rec (if jump.isNone then .ready else .done) jump)) ∧
        (W3.putObj (w.heap.size + 1) (.loop (rec (if jump.isNone then .ready else .done) jump))).heap[w.heap.size]? = some (.deferred (some [])) ∧
        KeepS K W (W3.putObj (w.heap.size + 1) (.loop (rec (if jump.isNone then .ready else .done) jump))) := fun jump W3 h3 => by
      have z2 := bK.size
      have l3 := (h3.same _ (by omega) (.inl ⟨by omega, by omega⟩)).trans bL
      have hend := run_endRound (P := P) jump l3
      rw [hrec] at hend ⊢
      rw [hrec] at l3
      have h3' : KeepS K W2 W3 := h3.mono fun i h => .inr h
      exact ⟨hend, World.putObj_heap_same (Array.getElem?_eq_some_iff.1 l3).1, (World.putObj_heap_other (by omega)).trans ((h3.same _ (by omega) (.inl ⟨by omega, by omega⟩)).trans bD), (bK.trans h3').trans (.put _ (fun h => hKn _ h rfl))⟩
    have leave : ∀ (cd : Code) (W3 : World), KeepS (fun i => (w.heap.size ≤ i ∧ i < w.heap.size + 2) ∨ K i) W2 W3 → Ix cd (pre ++ [x]) W3 → ∃ v W4, (Instr.endRound (w.heap.size + 1) (some cd)).run P W3 = .ok v W4 ∧ v = .bool false ∧
        ((∃ c, Ix c (pre ++ [x]) W4 ∧ W4.heap[w.heap.size + 1]? = some (.loop (rec .done (some c)))) ∧ W4.heap[w.heap.size]? = some (.deferred (some []))) := fun cd W3 h3 hi3 => by
      obtain ⟨hr, hl4, hk4, hkp⟩ := shut (some cd) W3 h3
      exact ⟨_, _, hr, rfl, ⟨⟨cd, hIx _ _ _ _ hi3 (.put _ (by omega)), hl4⟩, hk4⟩⟩
    rintro e a3 W3 hp
    cases e with
    | normal =>
      obtain ⟨h3, hi3⟩ := hp
      obtain ⟨hr, hl4, hk4, hkp⟩ := shut none W3 h3
      exact ⟨_, _, hr, .inl ⟨rfl, ⟨hI _ _ _ hi3 (.put _ (by omega)), hl4, hk4⟩, hkp⟩⟩
    | ret =>
      obtain ⟨v, W4, hr, rfl, h⟩ := leave .ret W3 hp.1 hp.2
      exact ⟨_, _, hr, .inr ⟨rfl, h⟩⟩
    | exit id =>
      obtain ⟨v, W4, hr, rfl, h⟩ := leave (.exit id) W3 hp.1 hp.2
      exact ⟨_, _, hr, .inr ⟨rfl, h⟩⟩
    | goto t =>
      obtain ⟨v, W4, hr, rfl, h⟩ := leave (.goto t) W3 hp.1 hp.2
      exact ⟨_, _, hr, .inr ⟨rfl, h⟩⟩
    | panic ch => exact hp.elim
    | outgrown => exact hp.elim
end Go.Proofs.Ytfipacfompihkaa
