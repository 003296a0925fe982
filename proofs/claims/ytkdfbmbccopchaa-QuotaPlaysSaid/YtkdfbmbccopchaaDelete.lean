/- The walk of slices.Delete at numbers: one is taken out. -/
import Derived.Test.YtkdfbmbccopchaaClear
import Derived.Test.YtkdfbmbccopchaaTTab
import Derived.Deep.QuietTactic
import Derived.BigQuiet
import Derived.BigRegion
import Derived.RegionTactic
import Derived.Deep.RegionHeld3
import Derived.IntWalk
namespace Go.Proofs.Ytkdfbmbccopchaa
open Go.RowKit Go.Lib

theorem drewS {w W : World} (h : ∃ k, W = w.drewN k) : ∃ k, W.drew = w.drewN k := by
  obtain ⟨k, rfl⟩ := h
  exact ⟨k + 1, rfl⟩
theorem step_append_run {P : Program} {ops : Array Oper} {o : Oper} {a : Act} {w w' : World} {K : Act → World → Prop} {Q : Exit → Act → World → Prop} {E : Prop} (hgd : o.guard = none) (s x : Operand) (t tx : TypeId)
    (ho : o.op = .call { callee := .builtin .append, args := #[s, x], argTypes := #[t, tx] }) (v y v' : Value) (hs : a.eval s = v) (hx : a.eval x = y)
    (hrun : (Builtin.append_ #[t, tx] o.type #[v, y]).run P w = .ok v' w') (h : K (a.put o.dst v') w') :
    if Region.wanted o (yielded ops a.tmps) = true then Oper.wp P o a w K Q else E := by
  have hw : Region.wanted o (yielded ops a.tmps) = true := by simp [Region.wanted, hgd]
  rw [if_pos hw]
  unfold Oper.wp execOp
  simp only [ho, resolve, invoke, builtin, Sem.run_bind, Sem.run_pure, Result.andThen_ok, List.map_toArray, List.map_cons, List.map_nil, hs, hx, hrun]
  exact h
theorem info_int : (Try.prog.info? 3).map (fun i => (i.zero, i.size, i.bytes)) = some (some (.int .i64 0), 1, 8) := by kernel_rfl
set_option maxRecDepth 100000 in
set_option maxHeartbeats 4000000 in
theorem deleteI_any (g cap n i : Nat) (xs : List Value) (w : World) (hS : Sl w 1 (.slice (some ⟨g, 0, none⟩) n cap) n xs) (h1 : ∀ u ∈ xs, u.oneCell' = true) (hi : i < n) (hn : n ≤ 1000000) :
    Calls Try.prog 53 #[.slice (some ⟨g, 0, none⟩) n cap, .int .i64 (i : Int), .int .i64 ((i : Int) + 1)] w fun e w' => e = .returned (.slice (some ⟨g, 0, none⟩) (n - 1) cap) ∧ Sl w' 1 (.slice (some ⟨g, 0, none⟩) (n - 1) cap) (n - 1) (xs.eraseIdx i) ∧ KeepK (fun k => k < w.heap.size ∧ k ≠ g) w w' := by
  obtain ⟨A, c, hv, hnc, hcm⟩ := hS.shape
  injection hv with hA _ hc
  subst hA hc
  unfold maxLen at hcm
  have hiI : (i : Int) + 1 ≤ (n : Int) := by omega
  have hncI : (n : Int) ≤ (cap : Int) := by omega
  have hcapI : (cap : Int) ≤ 9223372036854775807 := by omega
  have hnI : (n : Int) ≤ 1000000 := by omega
  have hne : ((i : Int) == (i : Int) + 1) = false := by simp; omega
  have hsz : ∀ W : World, (sizeOf (Try.prog.elem 62)).run Try.prog W = .ok 1 W := fun W => by rfl
  obtain ⟨j0, hj0, hy0, hy1, hy2⟩ := info_parts info_int
  have hadd : ∀ k : Nat, (⟨g, 0, none⟩ : Addr).add k = ⟨g, k, none⟩ := fun k => by rw [Go.WideShapes.add_plain, Nat.zero_add]
  have hr1 : ∀ W : World, (Instr.slice 62 (.slice (some ⟨g, 0, none⟩) n cap) none (some (.int .i64 (i : Int))) none).run Try.prog W = .ok (.slice (some ⟨g, 0, none⟩) i cap) W := fun W => by
    rw [run_slice_h (P := Try.prog) W 62 (some ⟨g, 0, none⟩) n cap Try.underlying62 .i64 (i : Int) (by omega) (by omega), hsz]
    simp [sliced, Result.andThen, hadd]
  obtain ⟨A5, hr2, hA5⟩ : ∃ A5, (∀ W : World, (Instr.slice 62 (.slice (some ⟨g, 0, none⟩) n cap) (some (.int .i64 ((i : Int) + 1))) none none).run Try.prog W = .ok (.slice A5 (n - (i + 1)) (cap - (i + 1))) W) ∧ (A5 = some ⟨g, i + 1, none⟩ ∨ (A5 = some ⟨g, 0, none⟩ ∧ n = i + 1)) := by
    refine ⟨if cap = i + 1 then some ⟨g, 0, none⟩ else some ⟨g, i + 1, none⟩, fun W => ?_, ?_⟩
    · rw [run_slice_l (P := Try.prog) W 62 (some ⟨g, 0, none⟩) n cap Try.underlying62 .i64 ((i : Int) + 1) (by omega) (by omega), hsz]
      have e : ((i : Int) + 1).toNat = i + 1 := by omega
      rw [e]
      simp [sliced, Result.andThen, hadd]
    · by_cases h : cap = i + 1
      · rw [if_pos h]; right; exact ⟨rfl, by omega⟩
      · rw [if_neg h]; left; rfl
  have hcell := fun (j : Nat) (u : Value) (hu : xs[j]? = some u) => hS.cell (g := g) rfl hu
  have hfree := fun (j : Nat) (hj : j < n * 1) => hS.free (g := g) rfl hj
  have hlen : xs.length = n := by have := hS.1; omega
  have hsrc : ∀ W : World, (∃ k, W = w.drewN k) → Src Try.prog 1 62 (.slice A5 (n - (i + 1)) (cap - (i + 1))) (n - (i + 1)) (xs.drop (i + 1)) W := fun W hW => by
    rcases hA5 with rfl | ⟨rfl, hni⟩
    · exact Src.ofSlice W Try.underlying62 ⟨g, i + 1, none⟩ _ _ _ (by rw [List.length_drop]; omega) (fun j u hu => by
        obtain ⟨k, rfl⟩ := hW
        rw [Go.WideShapes.add_plain]
        rw [List.getElem?_drop] at hu
        show w.cell? _ = _
        exact hcell _ u hu) (fun u hu => h1 u (List.mem_of_mem_drop hu))
    · exact Src.ofSlice W Try.underlying62 ⟨g, 0, none⟩ _ _ _ (by rw [List.length_drop]; omega) (fun j u hu => by
        rw [List.drop_eq_nil_of_le (by omega)] at hu
        simp at hu) (fun u hu => h1 u (List.mem_of_mem_drop hu))
  have hr3 : ∀ (W : World), (∃ k, W = w.drewN k) → ∀ ty : TypeId, (Builtin.append_ #[62, 62] ty #[.slice (some ⟨g, 0, none⟩) i cap, .slice A5 (n - (i + 1)) (cap - (i + 1))]).run Try.prog W = .ok (.slice (some ⟨g, 0, none⟩) (n - 1) cap) (W.setCells g i (xs.drop (i + 1))) := fun W hW ty => by
    have hsrc' := hsrc W hW
    obtain ⟨k, rfl⟩ := hW
    rw [← hy1] at hsrc'
    have h := run_append_room_src (P := Try.prog) (w.drewN k) 62 62 ty 3 j0 Try.underlying62 hj0 g 0 i cap _ _ _ hsrc' (by omega)
      (fun j hj => by
        rw [List.length_drop] at hj
        rw [hy1, show 0 + i * 1 + j = i + j by omega]
        show (w.cell? _).isSome = true
        rw [hcell (i + j) xs[i + j] (List.getElem?_eq_getElem (by omega))]
        rfl)
      (fun j hj => by
        rw [List.length_drop] at hj
        rw [hy1, show 0 + i * 1 + j = i + j by omega]
        show w.frozen? _ = false
        exact hfree _ (by omega))
    rw [hy1, show 0 + i * 1 = i by omega, show i + (n - (i + 1)) = n - 1 by omega] at h
    exact h
  have HS := Lib.hid (And.intro hS (And.intro h1 (And.intro hi (And.intro hn hnc))))
  clear hS h1 hi hn hnc hcm hsrc hcell hfree hlen hsz hadd hA5
  go_enter Try.func53, Try.ntmps53
  go_wp2_with (fail)
  have hrf : ∃ k, w = w.drewN k := ⟨0, rfl⟩
  have HR3 := Lib.hid hr3
  clear hr3
  go_region_held3 (fun w' => w' = w.drew ∨ w' = w.drew.setCells g i (xs.drop (i + 1))) (first | assumption | exact .inl rfl | exact .inr rfl)
    ((refine step_append_run (by rfl) (.tmp 22) (.tmp 25) 62 62 rfl _ _ _ rfl rfl (HR3.out w.drew (drewS hrf) _) ?_))
  obtain ⟨hS, h1, hi, hn, hnc⟩ := HS.out
  have hlen : xs.length = n := by have := hS.1; omega
  obtain ⟨W1, hW1⟩ : ∃ W1, w.drew.setCells g i (xs.drop (i + 1)) = W1 := ⟨_, rfl⟩
  have hgl : g < w.heap.size := hS.lt g rfl
  have hS1 : Sl W1 1 (.slice (some ⟨g, 0, none⟩) n cap) n (xs.take i ++ xs.drop (i + 1) ++ xs.drop (i + (xs.drop (i + 1)).length)) := by
    rw [← hW1]; exact hS.drew.over i (xs.drop (i + 1)) (by rw [List.length_drop]; omega)
  have hK1 : KeepK (fun k => k < w.heap.size ∧ k ≠ g) w W1 := by
    rw [← hW1]; exact ((KeepK.refl _ _).drew).setCells g i _ fun k hk => hk
  have hS2 := hS1.cut (n - 1) (by omega) [.int .i64 0] (by simp; omega)
  have hK2 : KeepK (fun k => k < w.heap.size ∧ k ≠ g) w (W1.setCells g ((n - 1) * 1) [.int .i64 0]) := hK1.setCells g _ _ fun k hk => ⟨Nat.lt_of_lt_of_le hk.1 hK1.size, hk.2⟩
  have hcl : ∀ ty : TypeId, (Builtin.clear_ #[62] ty #[.slice (some ⟨g, n - 1, none⟩) 1 (cap - (n - 1))]).run Try.prog W1 = .ok (.tuple #[]) (W1.setCells g ((n - 1) * 1) [.int .i64 0]) := fun ty => by
    have hz : (Builtin.zeroCells (Value.int .i64 0).cells 1).toList = [.int .i64 0] := by simp [Builtin.zeroCells, Value.cells]
    rw [Nat.mul_one, ← hz]
    refine run_clear_any (P := Try.prog) W1 _ 3 ty (.int .i64 0) Try.underlying62 (fun w => by rfl) g (n - 1) 1 (cap - (n - 1)) (by omega) (fun v hv => ?_) (fun j hj => ?_) (fun j hj => ?_)
    · rw [hz] at hv
      have : v = .int .i64 0 := by simpa using hv
      subst this; rfl
    · have hj0 : j = 0 := by rw [hz] at hj; have : j < 1 := hj; omega
      subst hj0
      rcases hS1.2 with ⟨hv, _⟩ | ⟨g', cap', hv, _, k1, _, k3, _⟩
      · cases hv
      · injection hv with e1 _ e3
        injection e1 with e1
        injection e1 with e1 _ _
        subst e1 e3
        exact (k3 _ (by omega)).1
    · have hj0 : j = 0 := by rw [hz] at hj; have : j < 1 := hj; omega
      subst hj0
      exact hS1.free (g := g) rfl (by omega)
  obtain ⟨W2, hW2⟩ : ∃ W2, W1.setCells g ((n - 1) * 1) [.int .i64 0] = W2 := ⟨_, rfl⟩
  rw [hW2] at hS2 hK2 hcl
  have hsl : ∀ W : World, (Instr.slice 62 (.slice (some ⟨g, 0, none⟩) (n - 1) cap) (some (.int .i64 ((n - 1 : Nat) : Int))) (some (.int .i64 (n : Int))) none).run Try.prog W = .ok (.slice (some ⟨g, n - 1, none⟩) 1 (cap - (n - 1))) W := fun W => by
    have hsz : ∀ W : World, (sizeOf (Try.prog.elem 62)).run Try.prog W = .ok 1 W := fun W => by rfl
    rw [run_slice_lh (P := Try.prog) W 62 (some ⟨g, 0, none⟩) (n - 1) cap Try.underlying62 .i64 .i64 ((n - 1 : Nat) : Int) (n : Int) (by omega) (by omega) (by omega), hsz]
    have h2 : n - (n - 1) = 1 := by omega
    have h3 : ¬ cap = n - 1 := by omega
    simp [sliced, Result.andThen, h2, h3, Go.WideShapes.add_plain]
  have hfin : (xs.take i ++ xs.drop (i + 1) ++ xs.drop (i + (xs.drop (i + 1)).length)).take ((n - 1) * 1) = xs.eraseIdx i := by
    rw [List.eraseIdx_eq_take_drop_succ, List.take_left' (by simp; omega)]
  rw [hfin] at hS2
  rw [hW1]
  have HF := Lib.hid (And.intro hS2 hK2)
  have hn1I : ((n - 1 : Nat) : Int) ≤ 1000000 := by omega
  clear hS h1 hi hn hnc hlen hW1 hS1 hK1 hW2 hS2 hK2 hfin hgl hr1 hr2 hrf
  go_wp2_with (fail)
  go_ret
  exact ⟨rfl, HF.out.1, HF.out.2⟩
end Go.Proofs.Ytkdfbmbccopchaa
