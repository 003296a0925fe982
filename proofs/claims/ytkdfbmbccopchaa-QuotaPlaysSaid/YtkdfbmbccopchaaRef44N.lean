/- The reference's queue: Next. Conditions: none. -/
import Derived.Test.YtkdfbmbccopchaaRef44D
namespace Go.Proofs.Ytkdfbmbccopchaa
open Go.RowKit Go.Lib

theorem res_cell_tmp4 {P : Program} {fn : Func} {p u u1 u2 : Tmp} {ty : TypeId} (h : fn.results = #[.cell p ty, .tmp u, .tmp u1, .tmp u2]) (tmps : Array Value) (w : World) (g : Nat) (t : TypeId) (cs : Array Value) (d : TypeDesc)
    (hp : tmps.getD p undef = .pointer (some ⟨g, 0, none⟩)) (hg : Blk w g t cs) (hu : P.underlying ty = some d) (hd : (match d with | .struct _ | .array _ _ => true | _ => false) = true) (hi : (P.info? ty).map (·.size) = some cs.size) :
    (results fn tmps).run P w = .ok (.tuple #[.agg cs, tmps.getD u undef, tmps.getD u1 undef, tmps.getD u2 undef]) w := by
  have hp' : tmps[p]?.getD undef = .pointer (some ⟨g, 0, none⟩) := by simpa using hp
  simp [results, h, hp', asAddr, Result.andThen, run_loadVar_row w g t ty cs _ d hg hu hd hi]
set_option maxRecDepth 100000 in
theorem tail_r (g n cap : Nat) (h1 : 1 ≤ n) (h2 : n ≤ cap) (h3 : cap ≤ 9223372036854775807) : ∃ A5, (∀ W : World, (Instr.slice 38 (.slice (some ⟨g, 0, none⟩) n cap) (some (.int .i64 1)) none none).run Try.prog W = .ok (.slice A5 (n - 1) (cap - 1)) W) ∧ (A5 = some ⟨g, 2, none⟩ ∨ (A5 = some ⟨g, 0, none⟩ ∧ n = 1)) := by
  refine ⟨if cap = 1 then some ⟨g, 0, none⟩ else some ⟨g, 2, none⟩, fun W => ?_, ?_⟩
  · have hsz : (sizeOf (Try.prog.elem 38)).run Try.prog W = .ok 2 W := by rfl
    have hadd : ∀ k : Nat, (⟨g, 0, none⟩ : Addr).add k = ⟨g, k, none⟩ := fun k => by rw [Go.WideShapes.add_plain, Nat.zero_add]
    rw [run_slice_l (P := Try.prog) W 38 (some ⟨g, 0, none⟩) n cap Try.underlying38 .i64 1 (by omega) (by omega), hsz]
    simp [sliced, Result.andThen, hadd]
  · by_cases h : cap = 1
    · rw [if_pos h]; right; exact ⟨rfl, by omega⟩
    · rw [if_neg h]; left; rfl
set_option maxRecDepth 100000 in
theorem tail_i (g n cap : Nat) (h1 : 1 ≤ n) (h2 : n ≤ cap) (h3 : cap ≤ 9223372036854775807) : ∃ A5, (∀ W : World, (Instr.slice 62 (.slice (some ⟨g, 0, none⟩) n cap) (some (.int .i64 1)) none none).run Try.prog W = .ok (.slice A5 (n - 1) (cap - 1)) W) ∧ (A5 = some ⟨g, 1, none⟩ ∨ (A5 = some ⟨g, 0, none⟩ ∧ n = 1)) := by
  refine ⟨if cap = 1 then some ⟨g, 0, none⟩ else some ⟨g, 1, none⟩, fun W => ?_, ?_⟩
  · have hsz : (sizeOf (Try.prog.elem 62)).run Try.prog W = .ok 1 W := by rfl
    have hadd : ∀ k : Nat, (⟨g, 0, none⟩ : Addr).add k = ⟨g, k, none⟩ := fun k => by rw [Go.WideShapes.add_plain, Nat.zero_add]
    rw [run_slice_l (P := Try.prog) W 62 (some ⟨g, 0, none⟩) n cap Try.underlying62 .i64 1 (by omega) (by omega), hsz]
    simp [sliced, Result.andThen, hadd]
  · by_cases h : cap = 1
    · rw [if_pos h]; right; exact ⟨rfl, by omega⟩
    · rw [if_neg h]; left; rfl
theorem src_tail_any {P : Program} {tx e' : TypeId} (hk : P.underlying tx = some (.slice e')) {W : World} {size g n cap : Nat} {xs : List Value} {A5 : Option Addr} (h : Sl W size (.slice (some ⟨g, 0, none⟩) n cap) n xs) (h1 : 1 ≤ n) (hx : ∀ u ∈ xs, u.oneCell' = true)
    (hA : A5 = some ⟨g, size, none⟩ ∨ (A5 = some ⟨g, 0, none⟩ ∧ n = 1)) : Src P size tx (.slice A5 (n - 1) (cap - 1)) (n - 1) (xs.drop size) W := by
  have hl : (xs.drop size).length = (n - 1) * size := by rw [List.length_drop, h.1, Nat.sub_mul, Nat.one_mul]
  rcases hA with rfl | ⟨rfl, hn⟩
  · exact Src.ofSlice W hk ⟨g, size, none⟩ _ _ _ hl (fun j u hu => by
      rw [Go.WideShapes.add_plain]
      rw [List.getElem?_drop] at hu
      exact h.cell rfl hu) (fun u hu => hx u (List.mem_of_mem_drop hu))
  · subst hn
    have : xs.drop size = [] := List.eq_nil_of_length_eq_zero (by rw [hl]; omega)
    rw [this]
    exact Src.ofSlice W hk ⟨g, 0, none⟩ _ _ _ (by simp) (fun j u hu => by simp at hu) (fun u hu => by cases hu)
theorem sl_empty_any (w : World) (t : TypeId) (size g : Nat) (hg : w.heap.size = g) : Sl (w.alloc (.cells #[] t)) size (.slice (some ⟨g, 0, none⟩) 0 0) 0 [] := by
  subst hg
  exact ⟨by simp, .inr ⟨w.heap.size, 0, rfl, by simp, Nat.le_refl _, Nat.zero_le _, fun j hj => absurd hj (by omega), fun j u hu => by simp at hu⟩⟩
theorem flatR_one {rs : Rw} {w : World} {K : Nat → Prop} (h : ∀ q ∈ rs, RC w K q.2 q.1.2) : ∀ u ∈ flatR rs, u.oneCell' = true := by
  intro u hu
  obtain ⟨q, hq, he⟩ := List.mem_flatMap.1 hu
  obtain ⟨A, c, hv, _⟩ := (h q hq).1.shape
  simp at he
  rcases he with rfl | rfl
  · rfl
  · rw [hv]; rfl
end Go.Proofs.Ytkdfbmbccopchaa
