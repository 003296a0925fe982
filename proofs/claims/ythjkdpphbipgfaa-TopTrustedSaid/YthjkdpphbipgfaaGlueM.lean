/- Hosts that are counted in a map, and messages that are small: plain. Conditions: none. -/
import Derived.Test.YthjkdpphbipgfaaCollectR
import Derived.Test.YthjkdpphbipgfaaMapR
import Derived.Test.YthjkdpphbipgfaaRdNames
namespace Go.Proofs.Ythjkdpphbipgfaa
open Go.RowKit Go.Lib

/-- How many of the names are this one, in small letters. -/
def cntN (ns : List Bs) (s : Bs) : Nat := (ns.filter fun n => foldB n == s).length
theorem cnt_le (ns : List Bs) (s : Bs) : cntN ns s ≤ ns.length := List.length_filter_le _ _
theorem cnt_snoc (ns : List Bs) (n s : Bs) : cntN (ns ++ [n]) s = cntN ns s + (if foldB n = s then 1 else 0) := by
  unfold cntN
  rw [List.filter_append, List.length_append]
  congr 1
  by_cases h : foldB n = s
  · simp [List.filter_cons, h]
  · have : (foldB n == s) = false := by simp [h]
    simp [List.filter_cons, this, h]
theorem cnt_any (ns : List Bs) (s : Bs) : decide (0 < cntN ns s) = ns.any fun n => foldB n == s := by
  unfold cntN
  rw [Bool.eq_iff_iff]
  simp only [decide_eq_true_eq, List.any_eq_true, List.length_pos_iff_exists_mem, List.mem_filter]
/-- A map that counts. -/
def CntF (ns : List Bs) (f : Lit → Option Value) : Prop := ∀ s : Bs, (f (.string s)).getD (.int .i64 0) = .int .i64 (cntN ns s : Int)
theorem CntF.nil_ : CntF [] (fun _ => none) := fun s => by simp [cntN]
theorem CntF.step {ns : List Bs} {f : Lit → Option Value} (h : CntF ns f) (n : Bs) : CntF (ns ++ [n]) (fun x => if x.sameKey (.string (foldB n)) then some (.int .i64 ((cntN ns (foldB n) + 1 : Nat) : Int)) else f x) := by
  intro s
  dsimp only
  rw [cnt_snoc]
  by_cases hs : foldB n = s
  · subst hs
    rw [if_pos (by simp [Lit.sameKey]), if_pos rfl]
    rfl
  · rw [if_neg (by simp [Lit.sameKey]; exact fun e => hs e.symm), if_neg hs]
    exact h s
theorem string_keyed2 : Maps.Keyed Try.prog 9 := Maps.string_keyed Try.underlying9
set_option maxRecDepth 100000 in
theorem zero_int2 (w : World) : (zeroValue 3).run Try.prog w = .ok (.int .i64 0) w := by rfl

def RRec.small (r : RRec) : Prop := r.n.size ≤ 1000 ∧ r.d.size ≤ 5000
structure MRec.Small (m : MRec) : Prop where
  lq : m.q.length ≤ 20
  ls : m.s.length ≤ 20
  lh : m.h.length ≤ 20
  le : m.e.length ≤ 20
  sq : ∀ e ∈ m.q, e.n.size ≤ 1000
  ss : ∀ e ∈ m.s, e.small
  sh : ∀ e ∈ m.h, e.small
  se : ∀ e ∈ m.e, e.small
theorem namesR_len (r : RRec) : (namesR r).length ≤ 2 := by
  unfold namesR lookN
  cases hf : formN r.t with
  | none => simp
  | some f =>
    have h2 : f.2.1 ≤ 2 := by
      unfold formN at hf
      split at hf
      · injection hf with hf; subst hf; decide
      · split at hf
        · injection hf with hf; subst hf; decide
        · split at hf
          · injection hf with hf; subst hf; decide
          · split at hf
            · injection hf with hf; subst hf; decide
            · cases hf
    dsimp only
    split
    · cases hc : cutN f r.db with
      | none => simp
      | some p => have := (cutN_len hc).2.2.1; simp; omega
    · simp
theorem namesR_names (r : RRec) : ∀ y ∈ namesR r, isName y = true := by
  unfold namesR
  cases h : lookN r.t r.db with
  | none => simp
  | some p =>
    unfold lookN at h
    cases hf : formN r.t with
    | none => rw [hf] at h; cases h
    | some f =>
      rw [hf] at h
      dsimp only at h
      split at h
      · exact (cutN_len h).2.2.2.2
      · cases h
theorem hosts_len (xs : List RRec) : (hostsL xs).length ≤ 2 * xs.length := by
  unfold hostsL
  induction xs with
  | nil => simp
  | cons r xs ih =>
    have := namesR_len r
    simp only [List.filter_cons]
    split
    · simp only [List.flatMap_cons, List.length_append, List.length_cons]; omega
    · simp only [List.length_cons]; omega
theorem hosts_snoc (xs : List RRec) (r : RRec) : hostsL (xs ++ [r]) = hostsL xs ++ (if r.t = 2 then namesR r else []) := by
  rw [hosts_append]
  congr 1
  unfold hostsL
  by_cases h : r.t = 2
  · simp [List.filter_cons, h]
  · simp [List.filter_cons, h]
/-- What staying has made of some lists. -/
theorem lists_made {K : Nat → Prop} (z : ByteArray) (ls : List LRec) (W W' : World) (hW : W' = ((W.alloc (.cells (ls.map LRec.v).toArray 24)).alloc (.cells #[.string z] 9)).alloc (.cells #[.slice (some ⟨W.heap.size, 0, none⟩) ls.length ls.length] 55))
    (ht : ∀ l ∈ ls, RTab W l.A l.xs ∧ (0 < l.xs.length → ∀ a, l.A = some a → K a.block)) (hok : ∀ l ∈ ls, l.xs.length ≤ 20 ∧ ∀ e ∈ l.xs, e.small) (h0 : K W.heap.size) (h1 : K (W.heap.size + 1)) (h2 : K (W.heap.size + 1 + 1)) (hl : ls.length ≤ 1000) (hz : z.size ≤ maxLen) :
    Lists W' K z (W.heap.size + 1) (W.heap.size + 1 + 1) W.heap.size ls ls.length ∧ Below W.heap.size W W' ∧ W'.heap.size = W.heap.size + 3 := by
  have hb : Below W.heap.size W W' := by rw [hW]; exact (((Below.refl _ _).alloc (Nat.le_refl _) _).alloc (by simp) _).alloc (by simp; omega) _
  have hs : W'.heap.size = W.heap.size + 3 := by rw [hW]; simp
  have ho : Blk W' W.heap.size 24 (ls.map LRec.v).toArray := by rw [hW]; exact ((Blk.new W _ _).alloc _).alloc _
  refine ⟨⟨?_, ?_, ?_, by omega, ?_, ?_, h1, h2, h0, ⟨Nat.le_refl _, hl⟩, hz⟩, hb, hs⟩
  · rw [hW]
    have := Blk.new (W.alloc (.cells (ls.map LRec.v).toArray 24)) 9 #[.string z]
    rw [World.size_alloc] at this
    exact this.alloc _
  · rw [hW]
    have := Blk.new ((W.alloc (.cells (ls.map LRec.v).toArray 24)).alloc (.cells #[.string z] 9)) 55 #[.slice (some ⟨W.heap.size, 0, none⟩) ls.length ls.length]
    rw [World.size_alloc, World.size_alloc] at this
    exact this
  · intro j l hj
    have := ho.cell j
    rw [this]
    simp [hj, LRec.v]
  · exact fun l hl => ⟨(ht l hl).1.below hb, (ht l hl).2⟩
  · refine fun l hl => ⟨by have := (hok l hl).1; omega, fun e he => ?_⟩
    have := (hok l hl).2 e he
    exact ⟨by unfold maxLen; have := this.1; omega, by have := this.2; omega⟩
theorem left_small {z : Bs} {xs : List RRec} (h : ∀ e ∈ xs, e.small) : ∀ e ∈ leftL z xs, e.small := fun e he => h e (left_stays he).1
end Go.Proofs.Ythjkdpphbipgfaa
