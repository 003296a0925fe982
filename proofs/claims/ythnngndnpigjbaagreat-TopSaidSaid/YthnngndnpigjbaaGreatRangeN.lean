/- A range over a function whose values are known one by one: the body is asked for just the value that comes next. Plain: no program in sight.
   (Turned from the kit's law wpIn_rangeFunc_ownF: there the body is asked for whatever value.) A range over a function whose values are known one by one, where the iterator has boxes of its own between its rounds. Plain: no program in sight.
   (Turned from XRange's law, which is turned from the kit's wpIn_rangeFunc_ownF.) A range over a function whose iterator has boxes of its own, where the body may turn what it has made itself since (an append in place). Plain: no program in sight.
   (Turned from XRangeN's law.) -/
import Derived.RangeFuncFrom
import Derived.RangeFuncWrites
namespace Go.Proofs.YthnngndnpigjbaaGreat
open Go.RowKit
variable {F : Fence} {n : Nat} {P : Program}

/-- The iterator calls its round with the values of L, one behind the other, till one says no more. -/
def SeqL {α : Type} (F : Fence) (n : Nat) (P : Program) (g : Nat) (lb : Array Value) (encs : α → Array Value) (Kp : World → World → Prop) (L : List α) (w : World) : Prop :=
  ∀ (l : Nat) (J Jx : List α → World → Prop) (W : World), Below w.heap.size w W → AbidesFrom W.heap.size J → AbidesFrom W.heap.size Jx →
    (∀ pre x W1, J pre W1 → pre ++ [x] <+: L → YieldAt F (n - 1) P l (encs x) W1 fun e W' =>
      (e = .returned (.bool true) ∧ J (pre ++ [x]) W' ∧ Kp W1 W') ∨ (e = .returned (.bool false) ∧ Jx (pre ++ [x]) W')) →
    J [] W →
    CallsIn F n P g (#[.func (.yield l) #[] #[]] ++ lb) W fun e W' => (∃ v, e = .returned v) ∧ (J L W' ∨ ∃ pre, pre <+: L ∧ Jx pre W')

theorem rangeL {α : Type} {g : Operand} {ps : Array Tmp} {assign body : Code} {Q : Exit → Act → World → Prop} {a : Act} {w : World}
    (hro : F.round = none) (h1 : 1 ≤ n) {gf : Nat} {lb : Array Value} (hg : a.eval g = .func (.func gf) #[] lb) (hFg : F.fn gf) (eg : ∀ args w, (callFunc gf args).run P w = .ok (.enter gf args) w)
    {encs : α → Array Value} {Kp : World → World → Prop} {L : List α} {w0 : World} (hseq : SeqL F (n - 1) P gf lb encs Kp L w0)
    (hKt : ∀ {A B C : World}, Kp A B → Kp B C → Kp A C) (hKb : ∀ (W : World) (l : Nat) (o o' : Obj), w.heap.size ≤ l → W.heap[l]? = some o → o.isCells = false → o.isWalk = false → Kp W (W.putObj l o'))
    (hb0 : Below w0.heap.size w0 w) (hps : ∀ x, (encs x).size = ps.size)
    (I : List α → World → Prop) (Ix : Code → List α → World → Prop) (hI : OwnFrom w.heap.size I) (hIx : ∀ c, OwnFrom w.heap.size (Ix c)) (h0 : I [] w) (a₁ : α → Act)
    (hassign : ∀ (l : Nat) (x : α) (W : World) (K : Act → World → Prop), K (a₁ x) W →
      assign.wpIn (F.inRound l) (n - 1 - 1) P (Exit.then K (fun _ _ _ => False)) { tmps := (ps.zip (encs x)).foldl (fun t (p, v) => t.setIfInBounds p v) a.tmps, defers := [] } W)
    (hbody : ∀ (l : Nat) (pre : List α) (x : α) (W : World), I pre W → pre ++ [x] <+: L → body.wpIn (F.inRound l) (n - 1 - 1) P (ownPostK Kp I Ix (pre ++ [x]) W) (a₁ x) W)
    (hdone : ∀ (D : Nat) (W : World), w.heap.size ≤ D → I L W → W.heap[D]? = some (.deferred (some [])) → Q .normal { a with defers := { target := .collected D, args := #[] } :: a.defers } W)
    (hstop : ∀ (D : Nat) (c : Code) (pre : List α) (W : World), w.heap.size ≤ D → pre <+: L → Ix c pre W → W.heap[D]? = some (.deferred (some [])) → c.wpIn F n P Q { a with defers := { target := .collected D, args := #[] } :: a.defers } W) :
    (Code.rangeFunc g ps assign body).wpIn F n P Q a w := by
  refine wpIn_rangeFunc fun fn hfn => ?_
  rw [hro]
  -- the loop's record, and where the blocks of the loop lie
  obtain ⟨rec, hrec⟩ : ∃ rec : LoopState → Option Code → Loop, rec = fun st pe => { state := st, pending := pe, fn, tmps := a.tmps, params := ps, assign, body, defers := w.heap.size } := ⟨_, rfl⟩
  obtain ⟨V, hV⟩ : ∃ V, (w.alloc (.deferred (some []))).alloc (.loop (rec .ready none)) = V := ⟨_, rfl⟩
  have hsz : V.heap.size = w.heap.size + 2 := by rw [← hV]; simp
  have vL : V.heap[w.heap.size + 1]? = some (.loop (rec .ready none)) := by
    rw [← hV]; have := World.alloc_heap_new (w.alloc (.deferred (some []))) (.loop (rec .ready none)); rwa [World.size_alloc] at this
  have vD : V.heap[w.heap.size]? = some (.deferred (some [])) := by
    rw [← hV]; exact (Below.heap_alloc _ _ _ (by simp)).trans (World.alloc_heap_new w _)
  have vI : I [] V := by rw [← hV]; exact hI.alloc _ (hI.alloc _ h0)
  have vB : Below w0.heap.size w0 V := by
    rw [← hV]; exact hb0.trans ((((Below.refl _ w).alloc (Nat.le_refl _) _).alloc (by simp) _).mono hb0.size)
  refine ⟨w.heap.size + 1, [{ target := .collected w.heap.size, args := #[] }], V, { target := .fn (.func gf) lb, args := #[.func (.yield (w.heap.size + 1)) #[] #[]] }, V, gf,
    #[.func (.yield (w.heap.size + 1)) #[] #[]] ++ lb, V, ?_, ?_, ?_, ?_, fun _ => h1, ?_⟩
  · rw [← hV, hrec]; exact run_enterLoop_outer _ _ _ _ _
  · simp only [resolve, hg]; simp [go_sem]
  · intro f' hf'; simp [Target.leads] at hf'; subst hf'; exact hFg
  · simp [invoke, go_sem, eg]
  -- what the iterator turns is no walk's and lies beyond
  have far : ∀ {A : World} {row : Option Nat}, (∀ r, row = some r → V.heap.size ≤ r ∧ ∃ o : Obj, A.heap[r]? = some o ∧ o.isWalk = true) → ∀ r, row = some r → w.heap.size ≤ r ∧ ∃ o : Obj, A.heap[r]? = some o ∧ o.isCells = false :=
    fun hr r e => by obtain ⟨hB, o, ho, hw⟩ := hr r e; exact ⟨by omega, o, ho, Obj.not_cells_of_walk hw⟩
  refine (hseq (w.heap.size + 1)
    (fun pre W => I pre W ∧ W.heap[w.heap.size + 1]? = some (.loop (rec .ready none)) ∧ W.heap[w.heap.size]? = some (.deferred (some [])))
    (fun pre W => ∃ c, Ix c pre W ∧ W.heap[w.heap.size + 1]? = some (.loop (rec .done (some c))) ∧ W.heap[w.heap.size]? = some (.deferred (some [])))
    V vB ?keepJ ?keepX ?round ⟨vI, vL, vD⟩).mono ?behind
  case keepJ =>
    exact fun s A B row hs hg' hr => ⟨hI s A B row hs.1 hg' (far hr), (grownBy_keeps hg' (fun r e => (hr r e).2) hs.2.1 rfl).trans hs.2.1, (grownBy_keeps hg' (fun r e => (hr r e).2) hs.2.2 rfl).trans hs.2.2⟩
  case keepX =>
    rintro s A B row ⟨c, hc, hl, hk⟩ hg' hr
    exact ⟨c, hIx c s A B row hc hg' (far hr), (grownBy_keeps hg' (fun r e => (hr r e).2) hl rfl).trans hl, (grownBy_keeps hg' (fun r e => (hr r e).2) hk rfl).trans hk⟩
  case behind =>
    rintro e W2 ⟨⟨v, rfl⟩, h | ⟨pre, hpre, c, h⟩⟩
    · obtain ⟨hi, hl, hk⟩ := h
      have hrun := run_endLoop (P := P) hl (by rw [hrec]; simp)
      rw [hrec] at hrun
      exact ⟨none, _, hrun, hdone _ _ (Nat.le_refl _) (hI.putObj _ hi (by omega) hl rfl) ((World.putObj_heap_other (by omega)).trans hk)⟩
    · obtain ⟨hi, hl, hk⟩ := h
      have hrun := run_endLoop (P := P) hl (by rw [hrec]; simp)
      rw [hrec] at hrun
      exact ⟨some c, _, hrun, hstop _ c pre _ (Nat.le_refl _) hpre ((hIx c).putObj _ hi (by omega) hl rfl) ((World.putObj_heap_other (by omega)).trans hk)⟩
  case round =>
    rintro pre x W ⟨hi, hl, hk⟩ hpre
    have hlt : w.heap.size + 1 < W.heap.size := (Array.getElem?_eq_some_iff.1 hl).1
    have hy := run_yield (P := P) (args := encs x) hl (by rw [hrec]; exact hps x)
    rw [hrec] at hy
    refine ⟨fn, _, assign, body, hy, roundIn_of_wpIn hfn (hassign _ x W _ ⟨_, run_beginRound hl (by rw [hrec]), ?_⟩)⟩
    generalize hW2 : W.putObj (w.heap.size + 1) (.loop { rec .ready none with state := .busy }) = W2
    have bL : W2.heap[w.heap.size + 1]? = some (.loop { rec .ready none with state := .busy }) := by rw [← hW2]; exact World.putObj_heap_same hlt
    have bD : W2.heap[w.heap.size]? = some (.deferred (some [])) := by rw [← hW2]; exact (World.putObj_heap_other (by omega)).trans hk
    have bK : Kp W W2 := by rw [← hW2]; exact hKb _ _ _ _ (by omega) hl rfl rfl
    have bI : I pre W2 := by rw [← hW2]; exact hI.putObj _ hi (by omega) hl rfl
    refine wpIn_mono (hbody _ pre x W2 bI hpre) ?_
    -- the round's end: the record is ready again, or done
    have shut : ∀ (jump : Option Code) (W3 : World), KeepsOthers W2 W3 → ∃ o, W3.heap[w.heap.size + 1]? = some o ∧ o.isCells = false ∧ o.isWalk = false ∧
        (Instr.endRound (w.heap.size + 1) jump).run P W3 = .ok (.bool jump.isNone) (W3.putObj (w.heap.size + 1) (.loop (rec (if jump.isNone then .ready else .done) jump))) ∧
        (W3.putObj (w.heap.size + 1) (.loop (rec (if jump.isNone then .ready else .done) jump))).heap[w.heap.size + 1]? = some (.loop (rec (if jump.isNone then .ready else .done) jump)) ∧
        (W3.putObj (w.heap.size + 1) (.loop (rec (if jump.isNone then .ready else .done) jump))).heap[w.heap.size]? = some (.deferred (some [])) := fun jump W3 h3 => by
      have l3 := h3.same _ _ bL rfl
      have hend := run_endRound (P := P) jump l3
      rw [hrec] at hend ⊢
      rw [hrec] at l3
      exact ⟨_, l3, rfl, rfl, hend, World.putObj_heap_same (Array.getElem?_eq_some_iff.1 l3).1, (World.putObj_heap_other (by omega)).trans (h3.same _ _ bD rfl)⟩
    have leave : ∀ (c : Code) (W3 : World), KeepsOthers W2 W3 → Ix c (pre ++ [x]) W3 → ∃ v W4, (Instr.endRound (w.heap.size + 1) (some c)).run P W3 = .ok v W4 ∧ v = .bool false ∧
        ∃ c, Ix c (pre ++ [x]) W4 ∧ W4.heap[w.heap.size + 1]? = some (.loop (rec .done (some c))) ∧ W4.heap[w.heap.size]? = some (.deferred (some [])) := fun c W3 h3 hi3 => by
      obtain ⟨o, ho, ho1, _, hr, hl4, hk4⟩ := shut (some c) W3 h3
      exact ⟨_, _, hr, rfl, c, (hIx c).putObj _ hi3 (by omega) ho ho1, hl4, hk4⟩
    rintro e a3 W3 hp
    cases e with
    | normal =>
      obtain ⟨h3, hkp, hi3⟩ := hp
      obtain ⟨o, ho, ho1, ho2, hr, hl4, hk4⟩ := shut none W3 h3
      exact ⟨_, _, hr, .inl ⟨rfl, ⟨hI.putObj _ hi3 (by omega) ho ho1, hl4, hk4⟩, hKt (hKt bK hkp) (hKb _ _ _ _ (by omega) ho ho1 ho2)⟩⟩
    | ret =>
      obtain ⟨v, W4, hr, rfl, h⟩ := leave .ret W3 hp.1 hp.2
      exact ⟨_, _, hr, .inr ⟨rfl, h⟩⟩
    | exit id =>
      obtain ⟨v, W4, hr, rfl, h⟩ := leave (.exit id) W3 hp.1 hp.2
      exact ⟨_, _, hr, .inr ⟨rfl, h⟩⟩
    | goto t =>
      obtain ⟨v, W4, hr, rfl, h⟩ := leave (.goto t) W3 hp.1 hp.2
      exact ⟨_, _, hr, .inr ⟨rfl, h⟩⟩
    | panic ch => exact hp.elim
    | outgrown => exact hp.elim
end Go.Proofs.YthnngndnpigjbaaGreat

namespace Go.Proofs.YthnngndnpigjbaaGreat
open Go.RowKit
variable {P : Program}

/-- Only the blocks from B up to X may have turned. -/
structure Out (B X : Nat) (W W' : World) : Prop where
  os : W'.os = W.os
  tape : W'.tape = W.tape
  output : W'.output = W.output
  size : W.heap.size ≤ W'.heap.size
  block : ∀ i, i < W.heap.size → (i < B ∨ X ≤ i) → W'.heap[i]? = W.heap[i]?
theorem Out.refl (B X : Nat) (W : World) : Out B X W W := ⟨rfl, rfl, rfl, Nat.le_refl _, fun _ _ _ => rfl⟩
theorem Out.trans {B X : Nat} {U V W : World} (h : Out B X U V) (k : Out B X V W) : Out B X U W :=
  ⟨k.os.trans h.os, k.tape.trans h.tape, k.output.trans h.output, Nat.le_trans h.size k.size, fun i hi ho => (k.block i (Nat.lt_of_lt_of_le hi h.size) ho).trans (h.block i hi ho)⟩
theorem Out.wide {B X B' X' : Nat} {U V : World} (h : Out B X U V) (hB : B' ≤ B) (hX : X ≤ X') : Out B' X' U V :=
  ⟨h.os, h.tape, h.output, h.size, fun i hi ho => h.block i hi (by omega)⟩
theorem Out.of_below {B X : Nat} {U V : World} (h : Below U.heap.size U V) : Out B X U V :=
  ⟨h.os, h.tape, h.output, h.size, fun i hi _ => h.block i hi⟩
theorem Out.put {B X : Nat} {U : World} {l : Nat} (o : Obj) (h : B ≤ l ∧ l < X) : Out B X U (U.putObj l o) :=
  ⟨rfl, rfl, rfl, by simp, fun i _ hi => World.putObj_heap_other (by omega)⟩
theorem Out.cell {B X : Nat} {U : World} {a : Addr} (v : Value) (h : B ≤ a.block ∧ a.block < X) : Out B X U (U.setCell a v) :=
  ⟨rfl, rfl, rfl, by simp [World.setCell], fun i _ hi => Below.heap_setCell _ _ _ _ (by omega)⟩
/-- What lies at or beyond B lies as it lay, and so does the block b. -/
structure Keep (B b : Nat) (W W' : World) : Prop where
  size : W.heap.size ≤ W'.heap.size
  same : ∀ i, i < W.heap.size → (B ≤ i ∨ i = b) → W'.heap[i]? = W.heap[i]?
theorem Keep.refl (B b : Nat) (W : World) : Keep B b W W := ⟨Nat.le_refl _, fun _ _ _ => rfl⟩
theorem Keep.trans {B b : Nat} {U V W : World} (h : Keep B b U V) (k : Keep B b V W) : Keep B b U W :=
  ⟨Nat.le_trans h.size k.size, fun i hi ho => (k.same i (Nat.lt_of_lt_of_le hi h.size) ho).trans (h.same i hi ho)⟩
theorem Keep.of_below {B b : Nat} {U V : World} (h : Below U.heap.size U V) : Keep B b U V := ⟨h.size, fun i hi _ => h.block i hi⟩
theorem Keep.put {B b : Nat} {U : World} {l : Nat} (o : Obj) (h : l < B) (hb : l ≠ b) : Keep B b U (U.putObj l o) :=
  ⟨by simp, fun i _ hi => World.putObj_heap_other (by omega)⟩
theorem Keep.cell {B b : Nat} {U : World} {a : Addr} (v : Value) (h : a.block < B) (hb : a.block ≠ b) : Keep B b U (U.setCell a v) :=
  ⟨by simp [World.setCell], fun i _ hi => Below.heap_setCell _ _ _ _ (by omega)⟩
theorem Keep.from {B b B' : Nat} {U V : World} (h : Keep B b U V) (hB : B ≤ B') : KeepsFrom B' U V :=
  ⟨h.size, fun k o hk ho _ => (h.same k (Array.getElem?_eq_some_iff.1 ho).1 (.inl (by omega))).trans ho⟩

theorem yield_deep {n m : Nat} {l : Nat} {args : Array Value} {W : World} {R : Ending → World → Prop} (h : YieldAt Fence.wide n P l args W R) : YieldAt Fence.wide m P l args W R := by
  obtain ⟨fn, tmps, assign, body, hy, h1, h2⟩ := h
  exact ⟨fn, tmps, assign, body, hy, h1, fun c cs _ => h2 c cs (room_wide _)⟩

/-- The iterator calls its round with the values of L, one behind the other, till one says no more; between its rounds it turns none but its own blocks, which it lays ahead of the first one. -/
def SeqN {α : Type} (P : Program) (g : Nat) (lb : Array Value) (encs : α → Array Value) (b : Nat) (L : List α) (w : World) : Prop :=
  ∀ (n : Nat) (l : Nat) (J Jx : Nat → List α → World → Prop) (W : World), Below w.heap.size w W →
    (∀ X s A A', J X s A → Out W.heap.size X A A' → J X s A') → (∀ X s A A', Jx X s A → Out W.heap.size X A A' → Jx X s A') →
    (∀ X pre x W1, J X pre W1 → pre ++ [x] <+: L → YieldAt Fence.wide n P l (encs x) W1 fun e W' =>
      (e = .returned (.bool true) ∧ J X (pre ++ [x]) W' ∧ Keep W.heap.size b W1 W') ∨ (e = .returned (.bool false) ∧ Jx X (pre ++ [x]) W' ∧ Keep W.heap.size b W1 W')) →
    (∀ X W', Below W.heap.size W W' → W'.heap.size = X → J X [] W') →
    CallsIn Fence.wide n P g (#[.func (.yield l) #[] #[]] ++ lb) W fun e W' => (∃ v, e = .returned v) ∧ ∃ X, J X L W' ∨ ∃ pre, pre <+: L ∧ Jx X pre W'

def postN {α : Type} (B b : Nat) (I : List α → World → Prop) (Ix : Code → List α → World → Prop) (xs : List α) (W : World) : Exit → Act → World → Prop
  | .normal, _, W' => Keep B b W W' ∧ I xs W'
  | .ret, _, W' => Keep B b W W' ∧ Ix .ret xs W'
  | .exit id, _, W' => Keep B b W W' ∧ Ix (.exit id) xs W'
  | .goto t, _, W' => Keep B b W W' ∧ Ix (.goto t) xs W'
  | .panic _, _, _ => False
  | .outgrown, _, _ => False

theorem rangeN {α : Type} {n : Nat} {g : Operand} {ps : Array Tmp} {assign body : Code} {Q : Exit → Act → World → Prop} {a : Act} {w : World}
    {gf : Nat} {lb : Array Value} (hg : a.eval g = .func (.func gf) #[] lb) (eg : ∀ args w, (callFunc gf args).run P w = .ok (.enter gf args) w)
    {encs : α → Array Value} {b : Nat} {L : List α} {w0 : World} (hseq : SeqN P gf lb encs b L w0)
    (hb : b < w.heap.size) (hb0 : Below w0.heap.size w0 w) (hps : ∀ x, (encs x).size = ps.size)
    (I : Nat → List α → World → Prop) (Ix : Nat → Code → List α → World → Prop) (hI : ∀ X s A A', I X s A → Out w.heap.size X A A' → I X s A') (hIx : ∀ X c s A A', Ix X c s A → Out w.heap.size X A A' → Ix X c s A')
    (h0 : ∀ X W, Below w.heap.size w W → W.heap.size = X → I X [] W) (a₁ : α → Act)
    (hassign : ∀ (l : Nat) (x : α) (W : World) (K : Act → World → Prop), K (a₁ x) W →
      assign.wpIn (Fence.wide.inRound l) (n - 1 - 1) P (Exit.then K (fun _ _ _ => False)) { tmps := (ps.zip (encs x)).foldl (fun t (p, v) => t.setIfInBounds p v) a.tmps, defers := [] } W)
    (hbody : ∀ (l X : Nat) (pre : List α) (x : α) (W : World), w.heap.size + 2 ≤ W.heap.size → I X pre W → pre ++ [x] <+: L → body.wpIn (Fence.wide.inRound l) (n - 1 - 1) P (postN w.heap.size b (I X) (Ix X) (pre ++ [x]) W) (a₁ x) W)
    (hdone : ∀ (D X : Nat) (W : World), w.heap.size ≤ D → D < X → I X L W → W.heap[D]? = some (.deferred (some [])) → Q .normal { a with defers := { target := .collected D, args := #[] } :: a.defers } W)
    (hstop : ∀ (D X : Nat) (c : Code) (pre : List α) (W : World), w.heap.size ≤ D → D < X → pre <+: L → Ix X c pre W → W.heap[D]? = some (.deferred (some [])) → c.wpIn Fence.wide n P Q { a with defers := { target := .collected D, args := #[] } :: a.defers } W) :
    (Code.rangeFunc g ps assign body).wpIn Fence.wide n P Q a w := by
  refine wpIn_rangeFunc fun fn hfn => ?_
  rw [show Fence.wide.round = none from rfl]
  obtain ⟨rec, hrec⟩ : ∃ rec : LoopState → Option Code → Loop, rec = fun st pe => { state := st, pending := pe, fn, tmps := a.tmps, params := ps, assign, body, defers := w.heap.size } := ⟨_, rfl⟩
  obtain ⟨V, hV⟩ : ∃ V, (w.alloc (.deferred (some []))).alloc (.loop (rec .ready none)) = V := ⟨_, rfl⟩
  have hsz : V.heap.size = w.heap.size + 2 := by rw [← hV]; simp
  have vL : V.heap[w.heap.size + 1]? = some (.loop (rec .ready none)) := by
    rw [← hV]; have := World.alloc_heap_new (w.alloc (.deferred (some []))) (.loop (rec .ready none)); rwa [World.size_alloc] at this
  have vD : V.heap[w.heap.size]? = some (.deferred (some [])) := by
    rw [← hV]; exact (Below.heap_alloc _ _ _ (by simp)).trans (World.alloc_heap_new w _)
  have vW : Below w.heap.size w V := by
    rw [← hV]; exact ((Below.refl _ w).alloc (Nat.le_refl _) _).alloc (by simp) _
  have vB : Below w0.heap.size w0 V := hb0.trans (vW.mono hb0.size)
  refine ⟨w.heap.size + 1, [{ target := .collected w.heap.size, args := #[] }], V, { target := .fn (.func gf) lb, args := #[.func (.yield (w.heap.size + 1)) #[] #[]] }, V, gf,
    #[.func (.yield (w.heap.size + 1)) #[] #[]] ++ lb, V, ?_, ?_, ?_, ?_, fun h => by simp [Fence.wide] at h, ?_⟩
  · rw [← hV, hrec]; exact run_enterLoop_outer _ _ _ _ _
  · simp only [resolve, hg]; simp [go_sem]
  · intro f' hf'; simp [Target.leads] at hf'; subst hf'; trivial
  · simp [invoke, go_sem, eg]
  refine (hseq (n - 1) (w.heap.size + 1)
    (fun X pre W => (I X pre W ∧ w.heap.size + 2 ≤ X) ∧ W.heap[w.heap.size + 1]? = some (.loop (rec .ready none)) ∧ W.heap[w.heap.size]? = some (.deferred (some [])))
    (fun X pre W => (∃ c, Ix X c pre W ∧ w.heap.size + 2 ≤ X ∧ W.heap[w.heap.size + 1]? = some (.loop (rec .done (some c)))) ∧ W.heap[w.heap.size]? = some (.deferred (some [])))
    V vB ?keepJ ?keepX ?round ?start).mono ?behind
  case keepJ =>
    rintro X s A B ⟨⟨hi, hX⟩, hl, hk⟩ ho
    have h2 := (Array.getElem?_eq_some_iff.1 hl).1
    exact ⟨⟨hI _ _ _ _ hi (ho.wide (by omega) (Nat.le_refl _)), hX⟩, (ho.block _ h2 (.inl (by omega))).trans hl, (ho.block _ (by omega) (.inl (by omega))).trans hk⟩
  case keepX =>
    rintro X s A B ⟨⟨c, hc, hX, hl⟩, hk⟩ ho
    have h2 := (Array.getElem?_eq_some_iff.1 hl).1
    exact ⟨⟨c, hIx _ _ _ _ _ hc (ho.wide (by omega) (Nat.le_refl _)), hX, (ho.block _ h2 (.inl (by omega))).trans hl⟩, (ho.block _ (by omega) (.inl (by omega))).trans hk⟩
  case start =>
    intro X W hW hX
    exact ⟨⟨h0 X W (vW.trans (hW.mono (by omega))) hX, by have := hW.size; omega⟩, (hW.block _ (by omega)).trans vL, (hW.block _ (by omega)).trans vD⟩
  case behind =>
    rintro e W2 ⟨⟨v, rfl⟩, X, h | ⟨pre, hpre, ⟨c, h, hX, hl⟩, hk⟩⟩
    · obtain ⟨⟨hi, hX⟩, hl, hk⟩ := h
      have hrun := run_endLoop (P := P) hl (by rw [hrec]; simp)
      rw [hrec] at hrun
      exact ⟨none, _, hrun, hdone _ X _ (Nat.le_refl _) (by omega) (hI _ _ _ _ hi (.put _ (by omega))) ((World.putObj_heap_other (by omega)).trans hk)⟩
    · have hrun := run_endLoop (P := P) hl (by rw [hrec]; simp)
      rw [hrec] at hrun
      exact ⟨some c, _, hrun, hstop _ X c pre _ (Nat.le_refl _) (by omega) hpre (hIx _ _ _ _ _ h (.put _ (by omega))) ((World.putObj_heap_other (by omega)).trans hk)⟩
  case round =>
    rintro X pre x W ⟨⟨hi, hX⟩, hl, hk⟩ hpre
    have hlt : w.heap.size + 1 < W.heap.size := (Array.getElem?_eq_some_iff.1 hl).1
    have hy := run_yield (P := P) (args := encs x) hl (by rw [hrec]; exact hps x)
    rw [hrec] at hy
    refine yield_deep (n := n - 1 - 1) ⟨fn, _, assign, body, hy, roundIn_of_wpIn hfn (hassign _ x W _ ⟨_, run_beginRound hl (by rw [hrec]), ?_⟩)⟩
    generalize hW2 : W.putObj (w.heap.size + 1) (.loop { rec .ready none with state := .busy }) = W2
    have bL : W2.heap[w.heap.size + 1]? = some (.loop { rec .ready none with state := .busy }) := by rw [← hW2]; exact World.putObj_heap_same hlt
    have bD : W2.heap[w.heap.size]? = some (.deferred (some [])) := by rw [← hW2]; exact (World.putObj_heap_other (by omega)).trans hk
    have bK : Keep V.heap.size b W W2 := by rw [← hW2]; exact .put _ (by omega) (by omega)
    have bI : I X pre W2 := by rw [← hW2]; exact hI _ _ _ _ hi (.put _ (by omega))
    refine wpIn_mono (hbody _ X pre x W2 (by have := bK.size; omega) bI hpre) ?_
    have shut : ∀ (jump : Option Code) (W3 : World), Keep w.heap.size b W2 W3 →
        (Instr.endRound (w.heap.size + 1) jump).run P W3 = .ok (.bool jump.isNone) (W3.putObj (w.heap.size + 1) (.loop (rec (if jump.isNone then .ready else .done) jump))) ∧
        (W3.putObj (w.heap.size + 1) (.loop (rec (if jump.isNone then .ready else .done) jump))).heap[w.heap.size + 1]? = some (.loop (rec (if jump.isNone then .ready else .done) jump)) ∧
        (W3.putObj (w.heap.size + 1) (.loop (rec (if jump.isNone then .ready else .done) jump))).heap[w.heap.size]? = some (.deferred (some [])) ∧
        Keep V.heap.size b W (W3.putObj (w.heap.size + 1) (.loop (rec (if jump.isNone then .ready else .done) jump))) := fun jump W3 h3 => by
      have z2 := bK.size
      have l3 := (h3.same _ (by omega) (.inl (by omega))).trans bL
      have hend := run_endRound (P := P) jump l3
      rw [hrec] at hend ⊢
      rw [hrec] at l3
      have h3' : Keep V.heap.size b W2 W3 := ⟨h3.size, fun i hi ho => h3.same i hi (by omega)⟩
      exact ⟨hend, World.putObj_heap_same (Array.getElem?_eq_some_iff.1 l3).1, (World.putObj_heap_other (by omega)).trans ((h3.same _ (by omega) (.inl (by omega))).trans bD), (bK.trans h3').trans (.put _ (by omega) (by omega))⟩
    have leave : ∀ (c : Code) (W3 : World), Keep w.heap.size b W2 W3 → Ix X c (pre ++ [x]) W3 → ∃ v W4, (Instr.endRound (w.heap.size + 1) (some c)).run P W3 = .ok v W4 ∧ v = .bool false ∧
        ((∃ c, Ix X c (pre ++ [x]) W4 ∧ w.heap.size + 2 ≤ X ∧ W4.heap[w.heap.size + 1]? = some (.loop (rec .done (some c)))) ∧ W4.heap[w.heap.size]? = some (.deferred (some []))) ∧ Keep V.heap.size b W W4 := fun c W3 h3 hi3 => by
      obtain ⟨hr, hl4, hk4, hkp⟩ := shut (some c) W3 h3
      exact ⟨_, _, hr, rfl, ⟨⟨c, hIx _ _ _ _ _ hi3 (.put _ (by omega)), hX, hl4⟩, hk4⟩, hkp⟩
    rintro e a3 W3 hp
    cases e with
    | normal =>
      obtain ⟨h3, hi3⟩ := hp
      obtain ⟨hr, hl4, hk4, hkp⟩ := shut none W3 h3
      exact ⟨_, _, hr, .inl ⟨rfl, ⟨⟨hI _ _ _ _ hi3 (.put _ (by omega)), hX⟩, hl4, hk4⟩, hkp⟩⟩
    | ret =>
      obtain ⟨v, W4, hr, rfl, h, hkp⟩ := leave .ret W3 hp.1 hp.2
      exact ⟨_, _, hr, .inr ⟨rfl, h, hkp⟩⟩
    | exit id =>
      obtain ⟨v, W4, hr, rfl, h, hkp⟩ := leave (.exit id) W3 hp.1 hp.2
      exact ⟨_, _, hr, .inr ⟨rfl, h, hkp⟩⟩
    | goto t =>
      obtain ⟨v, W4, hr, rfl, h, hkp⟩ := leave (.goto t) W3 hp.1 hp.2
      exact ⟨_, _, hr, .inr ⟨rfl, h, hkp⟩⟩
    | panic ch => exact hp.elim
    | outgrown => exact hp.elim
end Go.Proofs.YthnngndnpigjbaaGreat

namespace Go.Proofs.YthnngndnpigjbaaGreat
open Go.RowKit
variable {P : Program}

/-- The blocks from B up to X lie as they lay, and so do those from b up to c. -/
structure KeepX (B X b c : Nat) (W W' : World) : Prop where
  size : W.heap.size ≤ W'.heap.size
  same : ∀ i, i < W.heap.size → ((B ≤ i ∧ i < X) ∨ (b ≤ i ∧ i < c)) → W'.heap[i]? = W.heap[i]?
section
variable {B X b c : Nat} {U V W : World}
theorem KeepX.refl (B X b c : Nat) (W : World) : KeepX B X b c W W := ⟨Nat.le_refl _, fun _ _ _ => rfl⟩
theorem KeepX.trans (h : KeepX B X b c U V) (k : KeepX B X b c V W) : KeepX B X b c U W :=
  ⟨Nat.le_trans h.size k.size, fun i hi h1 => (k.same i (Nat.lt_of_lt_of_le hi h.size) h1).trans (h.same i hi h1)⟩
theorem KeepX.of_below (h : Below U.heap.size U V) : KeepX B X b c U V := ⟨h.size, fun i hi _ => h.block i hi⟩
theorem KeepX.put {l : Nat} (o : Obj) (h : (l < B ∨ X ≤ l) ∧ (l < b ∨ c ≤ l)) : KeepX B X b c U (U.putObj l o) :=
  ⟨by simp, fun i _ h1 => World.putObj_heap_other (by omega)⟩
theorem KeepX.cell {a : Addr} (v : Value) (h : (a.block < B ∨ X ≤ a.block) ∧ (a.block < b ∨ c ≤ a.block)) : KeepX B X b c U (U.setCell a v) :=
  ⟨by simp [World.setCell], fun i _ h1 => Below.heap_setCell _ _ _ _ (by omega)⟩
theorem KeepX.alloc (h : KeepX B X b c U V) (o : Obj) : KeepX B X b c U (V.alloc o) := h.trans (.of_below ((Below.refl _ _).alloc (Nat.le_refl _) _))
theorem KeepX.drew (h : KeepX B X b c U V) : KeepX B X b c U V.drew := ⟨h.size, h.same⟩
theorem KeepX.grown {row : Option Nat} (h : KeepX B X b c U V) (hg : V.grownBy W row) (hr : ∀ i, row = some i → (i < B ∨ X ≤ i) ∧ (i < b ∨ c ≤ i)) : KeepX B X b c U W :=
  h.trans ⟨hg.size, fun i hi h1 => hg.block i hi (fun e => by have := hr i e.symm; omega)⟩
theorem KeepX.block {g : Nat} (h : KeepX B X b c U V) (hg : g < U.heap.size) (h1 : (B ≤ g ∧ g < X) ∨ (b ≤ g ∧ g < c)) : V.heap[g]? = U.heap[g]? := h.same g hg h1
end
/-- The iterator calls its round with the values of L, one behind the other, till one says no more; between its rounds it turns none but its own blocks, which it lays ahead of the first one. -/
def SeqM {α : Type} (P : Program) (g : Nat) (lb : Array Value) (encs : α → Array Value) (b c : Nat) (L : List α) (w : World) : Prop :=
  ∀ (n : Nat) (l : Nat) (J Jx : Nat → List α → World → Prop) (W : World), Below w.heap.size w W →
    (∀ X s A A', J X s A → Out W.heap.size X A A' → J X s A') → (∀ X s A A', Jx X s A → Out W.heap.size X A A' → Jx X s A') →
    (∀ X pre x W1, J X pre W1 → pre ++ [x] <+: L → YieldAt Fence.wide n P l (encs x) W1 fun e W' =>
      (e = .returned (.bool true) ∧ J X (pre ++ [x]) W' ∧ KeepX W.heap.size X b c W1 W') ∨ (e = .returned (.bool false) ∧ Jx X (pre ++ [x]) W' ∧ KeepX W.heap.size X b c W1 W')) →
    (∀ X W', Below W.heap.size W W' → W'.heap.size = X → J X [] W') →
    CallsIn Fence.wide n P g (#[.func (.yield l) #[] #[]] ++ lb) W fun e W' => (∃ v, e = .returned v) ∧ ∃ X, J X L W' ∨ ∃ pre, pre <+: L ∧ Jx X pre W'

def postM {α : Type} (B X b c : Nat) (I : List α → World → Prop) (Ix : Code → List α → World → Prop) (xs : List α) (W : World) : Exit → Act → World → Prop
  | .normal, _, W' => KeepX B X b c W W' ∧ I xs W'
  | .ret, _, W' => KeepX B X b c W W' ∧ Ix .ret xs W'
  | .exit id, _, W' => KeepX B X b c W W' ∧ Ix (.exit id) xs W'
  | .goto t, _, W' => KeepX B X b c W W' ∧ Ix (.goto t) xs W'
  | .panic _, _, _ => False
  | .outgrown, _, _ => False

theorem rangeM {α : Type} {n : Nat} {g : Operand} {ps : Array Tmp} {assign body : Code} {Q : Exit → Act → World → Prop} {a : Act} {w : World}
    {gf : Nat} {lb : Array Value} (hg : a.eval g = .func (.func gf) #[] lb) (eg : ∀ args w, (callFunc gf args).run P w = .ok (.enter gf args) w)
    {encs : α → Array Value} {b c : Nat} {L : List α} {w0 : World} (hseq : SeqM P gf lb encs b c L w0)
    (hb : c ≤ w.heap.size) (hb0 : Below w0.heap.size w0 w) (hps : ∀ x, (encs x).size = ps.size)
    (I : Nat → List α → World → Prop) (Ix : Nat → Code → List α → World → Prop) (hI : ∀ X s A A', I X s A → Out w.heap.size X A A' → I X s A') (hIx : ∀ X c s A A', Ix X c s A → Out w.heap.size X A A' → Ix X c s A')
    (h0 : ∀ X W, Below w.heap.size w W → W.heap.size = X → I X [] W) (a₁ : α → Act)
    (hassign : ∀ (l : Nat) (x : α) (W : World) (K : Act → World → Prop), K (a₁ x) W →
      assign.wpIn (Fence.wide.inRound l) (n - 1 - 1) P (Exit.then K (fun _ _ _ => False)) { tmps := (ps.zip (encs x)).foldl (fun t (p, v) => t.setIfInBounds p v) a.tmps, defers := [] } W)
    (hbody : ∀ (l X : Nat) (pre : List α) (x : α) (W : World), w.heap.size + 2 ≤ W.heap.size → I X pre W → pre ++ [x] <+: L → body.wpIn (Fence.wide.inRound l) (n - 1 - 1) P (postM w.heap.size X b c (I X) (Ix X) (pre ++ [x]) W) (a₁ x) W)
    (hdone : ∀ (D X : Nat) (W : World), w.heap.size ≤ D → D < X → I X L W → W.heap[D]? = some (.deferred (some [])) → Q .normal { a with defers := { target := .collected D, args := #[] } :: a.defers } W)
    (hstop : ∀ (D X : Nat) (c : Code) (pre : List α) (W : World), w.heap.size ≤ D → D < X → pre <+: L → Ix X c pre W → W.heap[D]? = some (.deferred (some [])) → c.wpIn Fence.wide n P Q { a with defers := { target := .collected D, args := #[] } :: a.defers } W) :
    (Code.rangeFunc g ps assign body).wpIn Fence.wide n P Q a w := by
  refine wpIn_rangeFunc fun fn hfn => ?_
  rw [show Fence.wide.round = none from rfl]
  obtain ⟨rec, hrec⟩ : ∃ rec : LoopState → Option Code → Loop, rec = fun st pe => { state := st, pending := pe, fn, tmps := a.tmps, params := ps, assign, body, defers := w.heap.size } := ⟨_, rfl⟩
  obtain ⟨V, hV⟩ : ∃ V, (w.alloc (.deferred (some []))).alloc (.loop (rec .ready none)) = V := ⟨_, rfl⟩
  have hsz : V.heap.size = w.heap.size + 2 := by rw [← hV]; simp
  have vL : V.heap[w.heap.size + 1]? = some (.loop (rec .ready none)) := by
    rw [← hV]; have := World.alloc_heap_new (w.alloc (.deferred (some []))) (.loop (rec .ready none)); rwa [World.size_alloc] at this
  have vD : V.heap[w.heap.size]? = some (.deferred (some [])) := by
    rw [← hV]; exact (Below.heap_alloc _ _ _ (by simp)).trans (World.alloc_heap_new w _)
  have vW : Below w.heap.size w V := by
    rw [← hV]; exact ((Below.refl _ w).alloc (Nat.le_refl _) _).alloc (by simp) _
  have vB : Below w0.heap.size w0 V := hb0.trans (vW.mono hb0.size)
  refine ⟨w.heap.size + 1, [{ target := .collected w.heap.size, args := #[] }], V, { target := .fn (.func gf) lb, args := #[.func (.yield (w.heap.size + 1)) #[] #[]] }, V, gf,
    #[.func (.yield (w.heap.size + 1)) #[] #[]] ++ lb, V, ?_, ?_, ?_, ?_, fun h => by simp [Fence.wide] at h, ?_⟩
  · rw [← hV, hrec]; exact run_enterLoop_outer _ _ _ _ _
  · simp only [resolve, hg]; simp [go_sem]
  · intro f' hf'; simp [Target.leads] at hf'; subst hf'; trivial
  · simp [invoke, go_sem, eg]
  refine (hseq (n - 1) (w.heap.size + 1)
    (fun X pre W => (I X pre W ∧ w.heap.size + 2 ≤ X) ∧ W.heap[w.heap.size + 1]? = some (.loop (rec .ready none)) ∧ W.heap[w.heap.size]? = some (.deferred (some [])))
    (fun X pre W => (∃ c, Ix X c pre W ∧ w.heap.size + 2 ≤ X ∧ W.heap[w.heap.size + 1]? = some (.loop (rec .done (some c)))) ∧ W.heap[w.heap.size]? = some (.deferred (some [])))
    V vB ?keepJ ?keepX ?round ?start).mono ?behind
  case keepJ =>
    rintro X s A B ⟨⟨hi, hX⟩, hl, hk⟩ ho
    have h2 := (Array.getElem?_eq_some_iff.1 hl).1
    exact ⟨⟨hI _ _ _ _ hi (ho.wide (by omega) (Nat.le_refl _)), hX⟩, (ho.block _ h2 (.inl (by omega))).trans hl, (ho.block _ (by omega) (.inl (by omega))).trans hk⟩
  case keepX =>
    rintro X s A B ⟨⟨c, hc, hX, hl⟩, hk⟩ ho
    have h2 := (Array.getElem?_eq_some_iff.1 hl).1
    exact ⟨⟨c, hIx _ _ _ _ _ hc (ho.wide (by omega) (Nat.le_refl _)), hX, (ho.block _ h2 (.inl (by omega))).trans hl⟩, (ho.block _ (by omega) (.inl (by omega))).trans hk⟩
  case start =>
    intro X W hW hX
    exact ⟨⟨h0 X W (vW.trans (hW.mono (by omega))) hX, by have := hW.size; omega⟩, (hW.block _ (by omega)).trans vL, (hW.block _ (by omega)).trans vD⟩
  case behind =>
    rintro e W2 ⟨⟨v, rfl⟩, X, h | ⟨pre, hpre, ⟨c, h, hX, hl⟩, hk⟩⟩
    · obtain ⟨⟨hi, hX⟩, hl, hk⟩ := h
      have hrun := run_endLoop (P := P) hl (by rw [hrec]; simp)
      rw [hrec] at hrun
      exact ⟨none, _, hrun, hdone _ X _ (Nat.le_refl _) (by omega) (hI _ _ _ _ hi (.put _ (by omega))) ((World.putObj_heap_other (by omega)).trans hk)⟩
    · have hrun := run_endLoop (P := P) hl (by rw [hrec]; simp)
      rw [hrec] at hrun
      exact ⟨some c, _, hrun, hstop _ X c pre _ (Nat.le_refl _) (by omega) hpre (hIx _ _ _ _ _ h (.put _ (by omega))) ((World.putObj_heap_other (by omega)).trans hk)⟩
  case round =>
    rintro X pre x W ⟨⟨hi, hX⟩, hl, hk⟩ hpre
    have hlt : w.heap.size + 1 < W.heap.size := (Array.getElem?_eq_some_iff.1 hl).1
    have hy := run_yield (P := P) (args := encs x) hl (by rw [hrec]; exact hps x)
    rw [hrec] at hy
    refine yield_deep (n := n - 1 - 1) ⟨fn, _, assign, body, hy, roundIn_of_wpIn hfn (hassign _ x W _ ⟨_, run_beginRound hl (by rw [hrec]), ?_⟩)⟩
    generalize hW2 : W.putObj (w.heap.size + 1) (.loop { rec .ready none with state := .busy }) = W2
    have bL : W2.heap[w.heap.size + 1]? = some (.loop { rec .ready none with state := .busy }) := by rw [← hW2]; exact World.putObj_heap_same hlt
    have bD : W2.heap[w.heap.size]? = some (.deferred (some [])) := by rw [← hW2]; exact (World.putObj_heap_other (by omega)).trans hk
    have bK : KeepX V.heap.size X b c W W2 := by rw [← hW2]; exact .put _ (by omega)
    have bI : I X pre W2 := by rw [← hW2]; exact hI _ _ _ _ hi (.put _ (by omega))
    refine wpIn_mono (hbody _ X pre x W2 (by have := bK.size; omega) bI hpre) ?_
    have shut : ∀ (jump : Option Code) (W3 : World), KeepX w.heap.size X b c W2 W3 →
        (Instr.endRound (w.heap.size + 1) jump).run P W3 = .ok (.bool jump.isNone) (W3.putObj (w.heap.size + 1) (.loop (rec (if jump.isNone then .ready else .done) jump))) ∧
        (W3.putObj (w.heap.size + 1) (.loop (rec (if jump.isNone then .ready else .done) jump))).heap[w.heap.size + 1]? = some (.loop (rec (if jump.isNone then .ready else .done) jump)) ∧
        (W3.putObj (w.heap.size + 1) (.loop (rec (if jump.isNone then .ready else .done) jump))).heap[w.heap.size]? = some (.deferred (some [])) ∧
        KeepX V.heap.size X b c W (W3.putObj (w.heap.size + 1) (.loop (rec (if jump.isNone then .ready else .done) jump))) := fun jump W3 h3 => by
      have z2 := bK.size
      have l3 := (h3.same _ (by omega) (.inl ⟨by omega, by omega⟩)).trans bL
      have hend := run_endRound (P := P) jump l3
      rw [hrec] at hend ⊢
      rw [hrec] at l3
      have h3' : KeepX V.heap.size X b c W2 W3 := ⟨h3.size, fun i hi ho => h3.same i hi (by omega)⟩
      exact ⟨hend, World.putObj_heap_same (Array.getElem?_eq_some_iff.1 l3).1, (World.putObj_heap_other (by omega)).trans ((h3.same _ (by omega) (.inl ⟨by omega, by omega⟩)).trans bD), (bK.trans h3').trans (.put _ (by omega))⟩
    have leave : ∀ (cd : Code) (W3 : World), KeepX w.heap.size X b c W2 W3 → Ix X cd (pre ++ [x]) W3 → ∃ v W4, (Instr.endRound (w.heap.size + 1) (some cd)).run P W3 = .ok v W4 ∧ v = .bool false ∧
        ((∃ c, Ix X c (pre ++ [x]) W4 ∧ w.heap.size + 2 ≤ X ∧ W4.heap[w.heap.size + 1]? = some (.loop (rec .done (some c)))) ∧ W4.heap[w.heap.size]? = some (.deferred (some []))) ∧ KeepX V.heap.size X b c W W4 := fun cd W3 h3 hi3 => by
      obtain ⟨hr, hl4, hk4, hkp⟩ := shut (some cd) W3 h3
      exact ⟨_, _, hr, rfl, ⟨⟨cd, hIx _ _ _ _ _ hi3 (.put _ (by omega)), hX, hl4⟩, hk4⟩, hkp⟩
    rintro e a3 W3 hp
    cases e with
    | normal =>
      obtain ⟨h3, hi3⟩ := hp
      obtain ⟨hr, hl4, hk4, hkp⟩ := shut none W3 h3
      exact ⟨_, _, hr, .inl ⟨rfl, ⟨⟨hI _ _ _ _ hi3 (.put _ (by omega)), hX⟩, hl4, hk4⟩, hkp⟩⟩
    | ret =>
      obtain ⟨v, W4, hr, rfl, h, hkp⟩ := leave .ret W3 hp.1 hp.2
      exact ⟨_, _, hr, .inr ⟨rfl, h, hkp⟩⟩
    | exit id =>
      obtain ⟨v, W4, hr, rfl, h, hkp⟩ := leave (.exit id) W3 hp.1 hp.2
      exact ⟨_, _, hr, .inr ⟨rfl, h, hkp⟩⟩
    | goto t =>
      obtain ⟨v, W4, hr, rfl, h, hkp⟩ := leave (.goto t) W3 hp.1 hp.2
      exact ⟨_, _, hr, .inr ⟨rfl, h, hkp⟩⟩
    | panic ch => exact hp.elim
    | outgrown => exact hp.elim
/-- The same, where each value is laid into a box of its own. -/
theorem rangeMA {α : Type} {n : Nat} {g : Operand} {ps : Array Tmp} {assign body : Code} {Q : Exit → Act → World → Prop} {a : Act} {w : World}
    {gf : Nat} {lb : Array Value} (hg : a.eval g = .func (.func gf) #[] lb) (eg : ∀ args w, (callFunc gf args).run P w = .ok (.enter gf args) w)
    {encs : α → Array Value} {b c : Nat} {L : List α} {w0 : World} (hseq : SeqM P gf lb encs b c L w0)
    (hb : c ≤ w.heap.size) (hb0 : Below w0.heap.size w0 w) (hps : ∀ x, (encs x).size = ps.size)
    (I : Nat → List α → World → Prop) (Ix : Nat → Code → List α → World → Prop) (hI : ∀ X s A A', I X s A → Out w.heap.size X A A' → I X s A') (hIx : ∀ X c s A A', Ix X c s A → Out w.heap.size X A A' → Ix X c s A')
    (h0 : ∀ X W, Below w.heap.size w W → W.heap.size = X → I X [] W) (o : α → Obj) (a₁ : α → Nat → Act)
    (hassign : ∀ (l : Nat) (x : α) (W : World) (g : Nat) (K : Act → World → Prop), g = W.heap.size → K (a₁ x g) (W.alloc (o x)) →
      assign.wpIn (Fence.wide.inRound l) (n - 1 - 1) P (Exit.then K (fun _ _ _ => False)) { tmps := (ps.zip (encs x)).foldl (fun t (p, v) => t.setIfInBounds p v) a.tmps, defers := [] } W)
    (hbody : ∀ (l X : Nat) (pre : List α) (x : α) (g : Nat) (W : World), w.heap.size + 2 ≤ g → g + 1 = W.heap.size → W.heap[g]? = some (o x) → I X pre W → pre ++ [x] <+: L → body.wpIn (Fence.wide.inRound l) (n - 1 - 1) P (postM w.heap.size X b c (I X) (Ix X) (pre ++ [x]) W) (a₁ x g) W)
    (hdone : ∀ (D X : Nat) (W : World), w.heap.size ≤ D → D < X → I X L W → W.heap[D]? = some (.deferred (some [])) → Q .normal { a with defers := { target := .collected D, args := #[] } :: a.defers } W)
    (hstop : ∀ (D X : Nat) (c : Code) (pre : List α) (W : World), w.heap.size ≤ D → D < X → pre <+: L → Ix X c pre W → W.heap[D]? = some (.deferred (some [])) → c.wpIn Fence.wide n P Q { a with defers := { target := .collected D, args := #[] } :: a.defers } W) :
    (Code.rangeFunc g ps assign body).wpIn Fence.wide n P Q a w := by
  refine wpIn_rangeFunc fun fn hfn => ?_
  rw [show Fence.wide.round = none from rfl]
  obtain ⟨rec, hrec⟩ : ∃ rec : LoopState → Option Code → Loop, rec = fun st pe => { state := st, pending := pe, fn, tmps := a.tmps, params := ps, assign, body, defers := w.heap.size } := ⟨_, rfl⟩
  obtain ⟨V, hV⟩ : ∃ V, (w.alloc (.deferred (some []))).alloc (.loop (rec .ready none)) = V := ⟨_, rfl⟩
  have hsz : V.heap.size = w.heap.size + 2 := by rw [← hV]; simp
  have vL : V.heap[w.heap.size + 1]? = some (.loop (rec .ready none)) := by
    rw [← hV]; have := World.alloc_heap_new (w.alloc (.deferred (some []))) (.loop (rec .ready none)); rwa [World.size_alloc] at this
  have vD : V.heap[w.heap.size]? = some (.deferred (some [])) := by
    rw [← hV]; exact (Below.heap_alloc _ _ _ (by simp)).trans (World.alloc_heap_new w _)
  have vW : Below w.heap.size w V := by
    rw [← hV]; exact ((Below.refl _ w).alloc (Nat.le_refl _) _).alloc (by simp) _
  have vB : Below w0.heap.size w0 V := hb0.trans (vW.mono hb0.size)
  refine ⟨w.heap.size + 1, [{ target := .collected w.heap.size, args := #[] }], V, { target := .fn (.func gf) lb, args := #[.func (.yield (w.heap.size + 1)) #[] #[]] }, V, gf,
    #[.func (.yield (w.heap.size + 1)) #[] #[]] ++ lb, V, ?_, ?_, ?_, ?_, fun h => by simp [Fence.wide] at h, ?_⟩
  · rw [← hV, hrec]; exact run_enterLoop_outer _ _ _ _ _
  · simp only [resolve, hg]; simp [go_sem]
  · intro f' hf'; simp [Target.leads] at hf'; subst hf'; trivial
  · simp [invoke, go_sem, eg]
  refine (hseq (n - 1) (w.heap.size + 1)
    (fun X pre W => (I X pre W ∧ w.heap.size + 2 ≤ X) ∧ W.heap[w.heap.size + 1]? = some (.loop (rec .ready none)) ∧ W.heap[w.heap.size]? = some (.deferred (some [])))
    (fun X pre W => (∃ c, Ix X c pre W ∧ w.heap.size + 2 ≤ X ∧ W.heap[w.heap.size + 1]? = some (.loop (rec .done (some c)))) ∧ W.heap[w.heap.size]? = some (.deferred (some [])))
    V vB ?keepJ ?keepX ?round ?start).mono ?behind
  case keepJ =>
    rintro X s A B ⟨⟨hi, hX⟩, hl, hk⟩ ho
    have h2 := (Array.getElem?_eq_some_iff.1 hl).1
    exact ⟨⟨hI _ _ _ _ hi (ho.wide (by omega) (Nat.le_refl _)), hX⟩, (ho.block _ h2 (.inl (by omega))).trans hl, (ho.block _ (by omega) (.inl (by omega))).trans hk⟩
  case keepX =>
    rintro X s A B ⟨⟨c, hc, hX, hl⟩, hk⟩ ho
    have h2 := (Array.getElem?_eq_some_iff.1 hl).1
    exact ⟨⟨c, hIx _ _ _ _ _ hc (ho.wide (by omega) (Nat.le_refl _)), hX, (ho.block _ h2 (.inl (by omega))).trans hl⟩, (ho.block _ (by omega) (.inl (by omega))).trans hk⟩
  case start =>
    intro X W hW hX
    exact ⟨⟨h0 X W (vW.trans (hW.mono (by omega))) hX, by have := hW.size; omega⟩, (hW.block _ (by omega)).trans vL, (hW.block _ (by omega)).trans vD⟩
  case behind =>
    rintro e W2 ⟨⟨v, rfl⟩, X, h | ⟨pre, hpre, ⟨c, h, hX, hl⟩, hk⟩⟩
    · obtain ⟨⟨hi, hX⟩, hl, hk⟩ := h
      have hrun := run_endLoop (P := P) hl (by rw [hrec]; simp)
      rw [hrec] at hrun
      exact ⟨none, _, hrun, hdone _ X _ (Nat.le_refl _) (by omega) (hI _ _ _ _ hi (.put _ (by omega))) ((World.putObj_heap_other (by omega)).trans hk)⟩
    · have hrun := run_endLoop (P := P) hl (by rw [hrec]; simp)
      rw [hrec] at hrun
      exact ⟨some c, _, hrun, hstop _ X c pre _ (Nat.le_refl _) (by omega) hpre (hIx _ _ _ _ _ h (.put _ (by omega))) ((World.putObj_heap_other (by omega)).trans hk)⟩
  case round =>
    rintro X pre x W ⟨⟨hi, hX⟩, hl, hk⟩ hpre
    have hlt : w.heap.size + 1 < W.heap.size := (Array.getElem?_eq_some_iff.1 hl).1
    have hy := run_yield (P := P) (args := encs x) hl (by rw [hrec]; exact hps x)
    rw [hrec] at hy
    have hl1 : (W.alloc (o x)).heap[w.heap.size + 1]? = some (.loop (rec .ready none)) := (Below.heap_alloc W (o x) _ hlt).trans hl
    have hk1 : (W.alloc (o x)).heap[w.heap.size]? = some (.deferred (some [])) := (Below.heap_alloc W (o x) _ (by omega)).trans hk
    have hlt1 : w.heap.size + 1 < (W.alloc (o x)).heap.size := by rw [World.size_alloc]; omega
    have hi1 : I X pre (W.alloc (o x)) := hI _ _ _ _ hi (.of_below ((Below.refl _ _).alloc (Nat.le_refl _) _))
    refine yield_deep (n := n - 1 - 1) ⟨fn, _, assign, body, hy, roundIn_of_wpIn hfn (hassign _ x W _ _ rfl ⟨_, run_beginRound hl1 (by rw [hrec]), ?_⟩)⟩
    generalize hW2 : (W.alloc (o x)).putObj (w.heap.size + 1) (.loop { rec .ready none with state := .busy }) = W2
    have bL : W2.heap[w.heap.size + 1]? = some (.loop { rec .ready none with state := .busy }) := by rw [← hW2]; exact World.putObj_heap_same hlt1
    have bD : W2.heap[w.heap.size]? = some (.deferred (some [])) := by rw [← hW2]; exact (World.putObj_heap_other (by omega)).trans hk1
    have bK : KeepX V.heap.size X b c W W2 := by rw [← hW2]; exact ((KeepX.refl _ _ _ _ W).alloc (o x)).trans (.put _ (by omega))
    have bI : I X pre W2 := by rw [← hW2]; exact hI _ _ _ _ hi1 (.put _ (by omega))
    have bG : W2.heap[W.heap.size]? = some (o x) := by rw [← hW2]; exact (World.putObj_heap_other (by omega)).trans (World.alloc_heap_new W _)
    have bS : W.heap.size + 1 = W2.heap.size := by rw [← hW2]; simp
    refine wpIn_mono (hbody _ X pre x W.heap.size W2 (by omega) bS bG bI hpre) ?_
    have shut : ∀ (jump : Option Code) (W3 : World), KeepX w.heap.size X b c W2 W3 →
        (Instr.endRound (w.heap.size + 1) jump).run P W3 = .ok (.bool jump.isNone) (W3.putObj (w.heap.size + 1) (.loop (rec (if jump.isNone then .ready else .done) jump))) ∧
        (W3.putObj (w.heap.size + 1) (.loop (rec (if jump.isNone then .ready else .done) jump))).heap[w.heap.size + 1]? = some (.loop (rec (if jump.isNone then .ready else .done) jump)) ∧
        (W3.putObj (w.heap.size + 1) (.loop (rec (if jump.isNone then .ready else .done) jump))).heap[w.heap.size]? = some (.deferred (some [])) ∧
        KeepX V.heap.size X b c W (W3.putObj (w.heap.size + 1) (.loop (rec (if jump.isNone then .ready else .done) jump))) := fun jump W3 h3 => by
      have z2 := bK.size
      have l3 := (h3.same _ (by omega) (.inl ⟨by omega, by omega⟩)).trans bL
      have hend := run_endRound (P := P) jump l3
      rw [hrec] at hend ⊢
      rw [hrec] at l3
      have h3' : KeepX V.heap.size X b c W2 W3 := ⟨h3.size, fun i hi ho => h3.same i hi (by omega)⟩
      exact ⟨hend, World.putObj_heap_same (Array.getElem?_eq_some_iff.1 l3).1, (World.putObj_heap_other (by omega)).trans ((h3.same _ (by omega) (.inl ⟨by omega, by omega⟩)).trans bD), (bK.trans h3').trans (.put _ (by omega))⟩
    have leave : ∀ (cd : Code) (W3 : World), KeepX w.heap.size X b c W2 W3 → Ix X cd (pre ++ [x]) W3 → ∃ v W4, (Instr.endRound (w.heap.size + 1) (some cd)).run P W3 = .ok v W4 ∧ v = .bool false ∧
        ((∃ c, Ix X c (pre ++ [x]) W4 ∧ w.heap.size + 2 ≤ X ∧ W4.heap[w.heap.size + 1]? = some (.loop (rec .done (some c)))) ∧ W4.heap[w.heap.size]? = some (.deferred (some []))) ∧ KeepX V.heap.size X b c W W4 := fun cd W3 h3 hi3 => by
      obtain ⟨hr, hl4, hk4, hkp⟩ := shut (some cd) W3 h3
      exact ⟨_, _, hr, rfl, ⟨⟨cd, hIx _ _ _ _ _ hi3 (.put _ (by omega)), hX, hl4⟩, hk4⟩, hkp⟩
    rintro e a3 W3 hp
    cases e with
    | normal =>
      obtain ⟨h3, hi3⟩ := hp
      obtain ⟨hr, hl4, hk4, hkp⟩ := shut none W3 h3
      exact ⟨_, _, hr, .inl ⟨rfl, ⟨⟨hI _ _ _ _ hi3 (.put _ (by omega)), hX⟩, hl4, hk4⟩, hkp⟩⟩
    | ret =>
      obtain ⟨v, W4, hr, rfl, h, hkp⟩ := leave .ret W3 hp.1 hp.2
      exact ⟨_, _, hr, .inr ⟨rfl, h, hkp⟩⟩
    | exit id =>
      obtain ⟨v, W4, hr, rfl, h, hkp⟩ := leave (.exit id) W3 hp.1 hp.2
      exact ⟨_, _, hr, .inr ⟨rfl, h, hkp⟩⟩
    | goto t =>
      obtain ⟨v, W4, hr, rfl, h, hkp⟩ := leave (.goto t) W3 hp.1 hp.2
      exact ⟨_, _, hr, .inr ⟨rfl, h, hkp⟩⟩
    | panic ch => exact hp.elim
    | outgrown => exact hp.elim
end Go.Proofs.YthnngndnpigjbaaGreat
