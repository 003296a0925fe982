/- A range over a function whose iterator calls its round once at most, and whose body then leaves; the iterator turns blocks that are named ahead. Plain: no program in sight. (Turned from XRangeT's law.) Conditions: none. -/
import Derived.Test.YtfipacfompihkaaRangeN
namespace Go.Proofs.Ytfipacfompihkaa
open Go.RowKit
variable {P : Program}

/-- Only the blocks from B up to X, and those of S, may have turned. -/
structure OutS (S : Nat → Prop) (B X : Nat) (W W' : World) : Prop where
  os : W'.os = W.os
  tape : W'.tape = W.tape
  output : W'.output = W.output
  size : W.heap.size ≤ W'.heap.size
  block : ∀ i, i < W.heap.size → (i < B ∨ X ≤ i) → ¬ S i → W'.heap[i]? = W.heap[i]?
/-- The blocks from B on, and those of K, lie as they lay. -/
structure KeepZ (K : Nat → Prop) (B : Nat) (W W' : World) : Prop where
  size : W.heap.size ≤ W'.heap.size
  same : ∀ i, i < W.heap.size → (B ≤ i ∨ K i) → W'.heap[i]? = W.heap[i]?
section
variable {S K : Nat → Prop} {B X : Nat} {U V W : World}
theorem OutS.refl (S : Nat → Prop) (B X : Nat) (W : World) : OutS S B X W W := ⟨rfl, rfl, rfl, Nat.le_refl _, fun _ _ _ _ => rfl⟩
theorem OutS.trans (h : OutS S B X U V) (k : OutS S B X V W) : OutS S B X U W :=
  ⟨k.os.trans h.os, k.tape.trans h.tape, k.output.trans h.output, Nat.le_trans h.size k.size, fun i hi ho hs => (k.block i (Nat.lt_of_lt_of_le hi h.size) ho hs).trans (h.block i hi ho hs)⟩
theorem OutS.wide {B' X' : Nat} (h : OutS S B X U V) (hB : B' ≤ B) (hX : X ≤ X') : OutS S B' X' U V :=
  ⟨h.os, h.tape, h.output, h.size, fun i hi ho hs => h.block i hi (by omega) hs⟩
theorem OutS.of_below (h : Below U.heap.size U V) : OutS S B X U V :=
  ⟨h.os, h.tape, h.output, h.size, fun i hi _ _ => h.block i hi⟩
theorem OutS.put {l : Nat} (o : Obj) (h : B ≤ l ∧ l < X) : OutS S B X U (U.putObj l o) :=
  ⟨rfl, rfl, rfl, by simp, fun i _ hi _ => World.putObj_heap_other (by omega)⟩
theorem OutS.drew (U : World) : OutS S B X U U.drew := ⟨rfl, rfl, rfl, Nat.le_refl _, fun _ _ _ _ => rfl⟩
theorem KeepZ.refl (K : Nat → Prop) (B : Nat) (W : World) : KeepZ K B W W := ⟨Nat.le_refl _, fun _ _ _ => rfl⟩
theorem KeepZ.trans (h : KeepZ K B U V) (k : KeepZ K B V W) : KeepZ K B U W :=
  ⟨Nat.le_trans h.size k.size, fun i hi h1 => (k.same i (Nat.lt_of_lt_of_le hi h.size) h1).trans (h.same i hi h1)⟩
theorem KeepZ.of_below (h : Below U.heap.size U V) : KeepZ K B U V := ⟨h.size, fun i hi _ => h.block i hi⟩
theorem KeepZ.put {l : Nat} (o : Obj) (h : l < B) (hk : ¬ K l) : KeepZ K B U (U.putObj l o) :=
  ⟨by simp, fun i _ h1 => World.putObj_heap_other (by rintro rfl; rcases h1 with h1 | h1; omega; exact hk h1)⟩
theorem KeepZ.cell {a : Addr} (v : Value) (h : a.block < B) (hk : ¬ K a.block) : KeepZ K B U (U.setCell a v) :=
  ⟨by simp [World.setCell], fun i _ h1 => Below.heap_setCell _ _ _ _ (by rintro rfl; rcases h1 with h1 | h1; omega; exact hk h1)⟩
end
/-- The iterator calls its round with one value of G, once, if it hits at all; ahead of it and behind it, it turns none but its own blocks, which it lays ahead of the call, and those of S. -/
def SeqS {α : Type} (P : Program) (g : Nat) (lb : Array Value) (encs : α → Array Value) (S K : Nat → Prop) (G : α → Prop) (hit : Prop) (w : World) : Prop :=
  ∀ (n : Nat) (l : Nat) (J Jx : Nat → World → Prop) (W : World), Below w.heap.size w W →
    (∀ X A A', J X A → OutS S W.heap.size X A A' → J X A') → (∀ X A A', Jx X A → OutS S W.heap.size X A A' → Jx X A') →
    (∀ X x W1, J X W1 → G x → YieldAt Fence.wide n P l (encs x) W1 fun e W' => e = .returned (.bool false) ∧ Jx X W' ∧ KeepZ K W.heap.size W1 W') →
    (∀ X W', Below W.heap.size W W' → W'.heap.size = X → J X W') →
    CallsIn Fence.wide n P g (#[.func (.yield l) #[] #[]] ++ lb) W fun e W' => (∃ v, e = .returned v) ∧ ∃ X, (hit ∧ Jx X W') ∨ (¬ hit ∧ J X W')

/-- What a round owes: it leaves. -/
def postS (K : Nat → Prop) (B : Nat) (Ix : World → Prop) (W : World) : Exit → Act → World → Prop
  | .normal, _, _ => False
  | .ret, _, W' => KeepZ K B W W' ∧ Ix W'
  | .exit _, _, _ => False
  | .goto _, _, _ => False
  | .panic _, _, _ => False
  | .outgrown, _, _ => False

theorem rangeS {α : Type} {n : Nat} {g : Operand} {ps : Array Tmp} {assign body : Code} {Q : Exit → Act → World → Prop} {a : Act} {w : World}
    {gf : Nat} {lb : Array Value} (hg : a.eval g = .func (.func gf) #[] lb) (eg : ∀ args w, (callFunc gf args).run P w = .ok (.enter gf args) w)
    {encs : α → Array Value} {S K : Nat → Prop} {G : α → Prop} {hit : Prop} {w0 : World} (hseq : SeqS P gf lb encs S K G hit w0)
    (hS : ∀ i, S i → i < w.heap.size) (hK : ∀ i, K i → i < w.heap.size) (hb0 : Below w0.heap.size w0 w) (hps : ∀ x, (encs x).size = ps.size)
    (I Ix : Nat → World → Prop) (hI : ∀ X A A', I X A → OutS S w.heap.size X A A' → I X A') (hIx : ∀ X A A', Ix X A → OutS S w.heap.size X A A' → Ix X A')
    (h0 : ∀ X W, Below w.heap.size w W → W.heap.size = X → I X W) (o : α → Obj) (a₁ : α → Nat → Act)
    (hassign : ∀ (l : Nat) (x : α) (W : World) (g : Nat) (C : Act → World → Prop), g = W.heap.size → C (a₁ x g) (W.alloc (o x)) →
      assign.wpIn (Fence.wide.inRound l) (n - 1 - 1) P (Exit.then C (fun _ _ _ => False)) { tmps := (ps.zip (encs x)).foldl (fun t (p, v) => t.setIfInBounds p v) a.tmps, defers := [] } W)
    (hbody : ∀ (l X : Nat) (x : α) (g : Nat) (W : World), w.heap.size + 2 ≤ g → g + 1 = W.heap.size → W.heap[g]? = some (o x) → I X W → G x → body.wpIn (Fence.wide.inRound l) (n - 1 - 1) P (postS K w.heap.size (Ix X) W) (a₁ x g) W)
    (hdone : ∀ (D X : Nat) (W : World), w.heap.size = D → ¬ hit → I X W → W.heap[D]? = some (.deferred (some [])) → Q .normal { a with defers := { target := .collected D, args := #[] } :: a.defers } W)
    (hstop : ∀ (D X : Nat) (W : World), w.heap.size = D → hit → Ix X W → W.heap[D]? = some (.deferred (some [])) → Code.ret.wpIn Fence.wide n P Q { a with defers := { target := .collected D, args := #[] } :: a.defers } W) :
    (Code.rangeFunc g ps assign body).wpIn Fence.wide n P Q a w := by
  refine wpIn_rangeFunc fun fn hfn => ?_
  rw [show Fence.wide.round = none from rfl]
  obtain ⟨rec, hrec⟩ : ∃ rec : LoopState → Option Code → Loop, rec = fun st pe => { state := st, pending := pe, fn, tmps := a.tmps, params := ps, assign, body, defers := w.heap.size } := ⟨_, rfl⟩
  obtain ⟨V, hV⟩ : ∃ V, (w.alloc (.deferred (some []))).alloc (.loop (rec .ready none)) = V := ⟨_, rfl⟩
  have hsz : V.heap.size = w.heap.size + 2 := by rw [← hV]; simp
  have vL : V.heap[w.heap.size + 1]? = some (.loop (rec .ready none)) := by
    rw [← hV]; have := World.alloc_heap_new (w.alloc (.deferred (some []))) (.loop (rec .ready none)); rwa [World.size_alloc] at this
  have vD : V.heap[w.heap.size]? = some (.deferred (some [])) := by
    rw [← hV]; exact (Below.heap_alloc _ _ _ (by simp)).trans (World.alloc_heap_new w _)
  have vW : Below w.heap.size w V := by
    rw [← hV]; exact ((Below.refl _ w).alloc (Nat.le_refl _) _).alloc (by simp) _
  have vB : Below w0.heap.size w0 V := hb0.trans (vW.mono hb0.size)
  have hS1 : ¬ S (w.heap.size + 1) := fun h => by have := hS _ h; omega
  have hS0 : ¬ S w.heap.size := fun h => by have := hS _ h; omega
  have hK1 : ¬ K (w.heap.size + 1) := fun h => by have := hK _ h; omega
  refine ⟨w.heap.size + 1, [{ target := .collected w.heap.size, args := #[] }], V, { target := .fn (.func gf) lb, args := #[.func (.yield (w.heap.size + 1)) #[] #[]] }, V, gf,
    #[.func (.yield (w.heap.size + 1)) #[] #[]] ++ lb, V, ?_, ?_, ?_, ?_, fun h => by simp [Fence.wide] at h, ?_⟩
  · rw [← hV, hrec]; exact run_enterLoop_outer _ _ _ _ _
  · simp only [resolve, hg]; simp [go_sem]
  · intro f' hf'; simp [Target.leads] at hf'; subst hf'; trivial
  · simp [invoke, go_sem, eg]
  refine (hseq (n - 1) (w.heap.size + 1)
    (fun X W => (I X W ∧ w.heap.size + 2 ≤ X) ∧ W.heap[w.heap.size + 1]? = some (.loop (rec .ready none)) ∧ W.heap[w.heap.size]? = some (.deferred (some [])))
    (fun X W => (Ix X W ∧ w.heap.size + 2 ≤ X ∧ W.heap[w.heap.size + 1]? = some (.loop (rec .done (some .ret)))) ∧ W.heap[w.heap.size]? = some (.deferred (some [])))
    V vB ?keepJ ?keepX ?round ?start).mono ?behind
  case keepJ =>
    rintro X A B ⟨⟨hi, hX⟩, hl, hk⟩ ho
    have h2 := (Array.getElem?_eq_some_iff.1 hl).1
    exact ⟨⟨hI _ _ _ hi (ho.wide (by omega) (Nat.le_refl _)), hX⟩, (ho.block _ h2 (.inl (by omega)) hS1).trans hl, (ho.block _ (by omega) (.inl (by omega)) hS0).trans hk⟩
  case keepX =>
    rintro X A B ⟨⟨hc, hX, hl⟩, hk⟩ ho
    have h2 := (Array.getElem?_eq_some_iff.1 hl).1
    exact ⟨⟨hIx _ _ _ hc (ho.wide (by omega) (Nat.le_refl _)), hX, (ho.block _ h2 (.inl (by omega)) hS1).trans hl⟩, (ho.block _ (by omega) (.inl (by omega)) hS0).trans hk⟩
  case start =>
    intro X W hW hX
    exact ⟨⟨h0 X W (vW.trans (hW.mono (by omega))) hX, by have := hW.size; omega⟩, (hW.block _ (by omega)).trans vL, (hW.block _ (by omega)).trans vD⟩
  case behind =>
    rintro e W2 ⟨⟨v, rfl⟩, X, ⟨hh, ⟨h, hX, hl⟩, hk⟩ | ⟨hh, ⟨hi, hX⟩, hl, hk⟩⟩
    · have hrun := run_endLoop (P := P) hl (by rw [hrec]; simp)
      rw [hrec] at hrun
      exact ⟨some .ret, _, hrun, hstop _ X _ rfl hh (hIx _ _ _ h (.put _ (by omega))) ((World.putObj_heap_other (by omega)).trans hk)⟩
    · have hrun := run_endLoop (P := P) hl (by rw [hrec]; simp)
      rw [hrec] at hrun
      exact ⟨none, _, hrun, hdone _ X _ rfl hh (hI _ _ _ hi (.put _ (by omega))) ((World.putObj_heap_other (by omega)).trans hk)⟩
  case round =>
    rintro X x W ⟨⟨hi, hX⟩, hl, hk⟩ hG
    have hlt : w.heap.size + 1 < W.heap.size := (Array.getElem?_eq_some_iff.1 hl).1
    have hy := run_yield (P := P) (args := encs x) hl (by rw [hrec]; exact hps x)
    rw [hrec] at hy
    have hl1 : (W.alloc (o x)).heap[w.heap.size + 1]? = some (.loop (rec .ready none)) := (Below.heap_alloc W (o x) _ hlt).trans hl
    have hk1 : (W.alloc (o x)).heap[w.heap.size]? = some (.deferred (some [])) := (Below.heap_alloc W (o x) _ (by omega)).trans hk
    have hlt1 : w.heap.size + 1 < (W.alloc (o x)).heap.size := by rw [World.size_alloc]; omega
    have hi1 : I X (W.alloc (o x)) := hI _ _ _ hi (.of_below ((Below.refl _ _).alloc (Nat.le_refl _) _))
    refine yield_deep (n := n - 1 - 1) ⟨fn, _, assign, body, hy, roundIn_of_wpIn hfn (hassign _ x W _ _ rfl ⟨_, run_beginRound hl1 (by rw [hrec]), ?_⟩)⟩
    generalize hW2 : (W.alloc (o x)).putObj (w.heap.size + 1) (.loop { rec .ready none with state := .busy }) = W2
    have bL : W2.heap[w.heap.size + 1]? = some (.loop { rec .ready none with state := .busy }) := by rw [← hW2]; exact World.putObj_heap_same hlt1
    have bD : W2.heap[w.heap.size]? = some (.deferred (some [])) := by rw [← hW2]; exact (World.putObj_heap_other (by omega)).trans hk1
    have bK : KeepZ K V.heap.size W W2 := by rw [← hW2]; exact (KeepZ.of_below ((Below.refl _ _).alloc (Nat.le_refl _) _)).trans (.put _ (by omega) hK1)
    have bI : I X W2 := by rw [← hW2]; exact hI _ _ _ hi1 (.put _ (by omega))
    have bG : W2.heap[W.heap.size]? = some (o x) := by rw [← hW2]; exact (World.putObj_heap_other (by omega)).trans (World.alloc_heap_new W _)
    have bS : W.heap.size + 1 = W2.heap.size := by rw [← hW2]; simp
    refine wpIn_mono (hbody _ X x W.heap.size W2 (by omega) bS bG bI hG) ?_
    rintro e a3 W3 hp
    cases e with
    | normal => exact hp.elim
    | exit id => exact hp.elim
    | goto t => exact hp.elim
    | panic ch => exact hp.elim
    | outgrown => exact hp.elim
    | ret =>
      obtain ⟨h3, hi3⟩ := hp
      have z2 := bK.size
      have l3 := (h3.same _ (by omega) (.inl (by omega))).trans bL
      have hend := run_endRound (P := P) (some .ret) l3
      rw [hrec] at hend
      rw [hrec] at l3
      have h3' : KeepZ K V.heap.size W2 W3 := ⟨h3.size, fun i hi ho => h3.same i hi (ho.imp (fun h => by omega) id)⟩
      refine ⟨_, _, hend, rfl, ⟨⟨hIx _ _ _ hi3 (.put _ (by omega)), hX, ?_⟩, (World.putObj_heap_other (by omega)).trans ((h3.same _ (by omega) (.inl (by omega))).trans bD)⟩, (bK.trans h3').trans (.put _ (by omega) hK1)⟩
      rw [hrec]
      exact World.putObj_heap_same (Array.getElem?_eq_some_iff.1 l3).1
end Go.Proofs.Ytfipacfompihkaa
