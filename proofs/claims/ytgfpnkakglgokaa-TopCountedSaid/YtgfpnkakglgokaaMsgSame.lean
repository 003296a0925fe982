/- The walks of hardtackref05.SameList, hardtackref06.Same at what reads alike, slices.Clone at questions, scrub.many. Conditions: none. -/
import Derived.Test.YtgfpnkakglgokaaMsgSmall
import Derived.Shelf.Abstract
import Derived.Test.YtgfpnkakglgokaaRet
import Derived.Deep.LoopGhost
import Derived.Deep.Light
import Derived.Outline
import Derived.OwnWalk
import Derived.Test.YtgfpnkakglgokaaRes
import Derived.Laws.StructEq
import Derived.WalkSpells
import Derived.BigQuiet
import Derived.Deep.QuietTactic
namespace Go.Proofs.Ytgfpnkakglgokaa
open Go.RowKit Go.Shelf Go.Lib

theorem neq_rr (e : RRec) (w : World) : (binOp .neq 85 (.agg #[.string e.n, .int .u16 e.t, .int .u16 e.c, .int .u32 e.l, .string e.d]) (.agg #[.string e.n, .int .u16 e.t, .int .u16 e.c, .int .u32 e.l, .string e.d])).run Try.prog w = .ok (.bool false) w := by
  have hS : Try.prog.underlying 85 = some (.struct (Try.prog.fieldsOf 85)) := by kernel_rfl
  have hp : Try.prog.stoodInHeld 85 = false := by kernel_rfl
  have u1 := Try.underlying9
  have u2 := Try.underlying25
  have u3 := Try.underlying31
  have u4 := Try.underlying47
  have a1 := Try.isAgg9
  have a2 := Try.isAgg25
  have a3 := Try.isAgg31
  have a4 := Try.isAgg47
  have z1 := Try.sizeOf9
  have z2 := Try.sizeOf25
  have z3 := Try.sizeOf31
  have z4 := Try.sizeOf47
  rw [run_neq_struct, show (10000 : Nat) = 9999 + 1 from rfl, run_equalIn_agg w 9999 _ _ _ hS hp]
  simp only [Program.fieldsOf, Try.underlying85]
  go_simp
theorem neq_qq (e : QRec) (w : World) : (binOp .neq 49 (.agg #[.string e.n, .int .u16 e.t, .int .u16 e.c]) (.agg #[.string e.n, .int .u16 e.t, .int .u16 e.c])).run Try.prog w = .ok (.bool false) w := by
  have hS : Try.prog.underlying 49 = some (.struct (Try.prog.fieldsOf 49)) := by kernel_rfl
  have hp : Try.prog.stoodInHeld 49 = false := by kernel_rfl
  have u1 := Try.underlying9
  have u3 := Try.underlying31
  have u4 := Try.underlying47
  have a1 := Try.isAgg9
  have a3 := Try.isAgg31
  have a4 := Try.isAgg47
  have z1 := Try.sizeOf9
  have z3 := Try.sizeOf31
  have z4 := Try.sizeOf47
  rw [run_neq_struct, show (10000 : Nat) = 9999 + 1 from rfl, run_equalIn_agg w 9999 _ _ _ hS hp]
  simp only [Program.fieldsOf, Try.underlying49]
  go_simp

theorem info_q : (Try.prog.info? 49).map (fun i => (i.zero, i.size, i.bytes)) = some (some (.agg #[.string ⟨#[]⟩, .int .u16 0, .int .u16 0]), 3, 24) := by kernel_rfl
theorem qq_one (xs : List QRec) : ∀ u ∈ flatV QRec.vs xs, u.oneCell' = true := by
  intro u hu
  obtain ⟨e, _, hu⟩ := List.mem_flatMap.1 hu
  simp only [QRec.vs, List.mem_cons, List.not_mem_nil, or_false] at hu
  rcases hu with rfl | rfl | rfl <;> rfl
def CollPostQ (L : List QRec) (w : World) (e : Ending) (w' : World) : Prop :=
  ∃ A c, e = .returned (.slice A L.length c) ∧ Sl w' 3 (.slice A L.length c) L.length (flatV QRec.vs L) ∧ (∀ g, (Value.slice A L.length c).ownBlock = some g → w.heap.size ≤ g) ∧ Below w.heap.size w w'

theorem own_fromQ {B : Nat} {w : World} {v v' : Value} (h : ∀ g, v.ownBlock = some g → B ≤ g) (hB : B ≤ w.heap.size) (hv : v'.ownBlock = v.ownBlock ∨ v'.ownBlock = some w.heap.size) : ∀ g, v'.ownBlock = some g → B ≤ g := by
  intro g hg
  rcases hv with e | e
  · exact h g (e.symm.trans hg)
  · rw [hg] at e
    have : g = w.heap.size := Option.some.inj e
    omega

theorem sl_empty_n (w : World) (t : TypeId) (size : Nat) : Sl (w.alloc (.cells #[] t)) size (.slice (some ⟨w.heap.size, 0, none⟩) 0 0) 0 [] :=
  ⟨by simp, .inr ⟨w.heap.size, 0, rfl, by simp, Nat.le_refl _, Nat.zero_le _, fun j hj => by simp at hj, fun j u hu => by simp at hu⟩⟩

set_option maxHeartbeats 1000000 in
set_option maxRecDepth 100000 in
theorem cloneQ_any (xs : List QRec) (A : Option Addr) (c : Nat) (w : World) (hT : QTabl w A xs) (hn : xs.length ≤ 8192) :
    Calls Try.prog 28 #[.slice A xs.length c] w (CollPostQ xs w) := by
  obtain ⟨i0, hi0, hz0, hz1, hz2⟩ := info_parts info_q
  cases A with
  | none =>
    have h0 : xs = [] := by
      cases xs with
      | nil => rfl
      | cons e xs => obtain ⟨_, _, h, _⟩ := hT (by simp); cases h
    subst h0
    have hq := fun w : World => Lib.run_eql_slice_nil w _ _ none 0 c 0 0 Try.underlying32
    simp only [Option.isNone_none] at hq
    clear hT
    go_enter Try.func28, Try.ntmps28
    go_wp2_with (fail)
    go_ret
    exact ⟨none, 0, rfl, Sl.nil _ _, fun g hg => by simp [Value.ownBlock] at hg, Below.refl _ _⟩
  | some a =>
    have hq := fun w : World => Lib.run_eql_slice_nil w _ _ (some a) xs.length c 0 0 Try.underlying32
    simp only [Option.isNone_some] at hq
    have HSR := Lib.hid (src_reads (P := Try.prog) (c := c) Try.underlying32 (((hT.below ((Below.refl _ w).alloc (Nat.le_refl _) (.cells #[] 49)) : QTabl (w.alloc (.cells #[] 49)) (some a) xs)).reads QRec.three (by decide)) (qq_one xs))
    have HSL := Lib.hid (sl_empty_n w 49 3)
    clear hT
    go_enter Try.func28, Try.ntmps28
    go_wp2_with (at_builtin; go_must (refine wpList_append_sl _ rfl (.tmp 5) (.tmp 6) 32 32 rfl 49 i0 (.agg #[.string ⟨#[]⟩, .int .u16 0, .int .u16 0]) 3 24 Try.underlying32 hi0 hz0 hz1 hz2 rfl (.slice (some ⟨w.heap.size, 0, none⟩) 0 0) 0 [] rfl HSL.out (.slice (some a) xs.length c) rfl xs.length (flatV QRec.vs xs) HSR.out (by unfold maxLen; omega) (by omega) ?_); intro v1 w1 hs1 hg1 hv1; rw [Nat.zero_add, List.nil_append] at hs1; obtain ⟨A3, c3, rfl, hc3, hm3⟩ := hs1.shape)
    go_ret
    refine ⟨A3, c3, rfl, hs1, own_fromQ (B := w.heap.size) (fun g hg => by simp [Value.ownBlock] at hg; omega) (by simp) hv1, ?_⟩
    exact ((Below.refl _ _).alloc (Nat.le_refl _) _).grown hg1 (by simp) (fun k hk => by simp [Value.ownBlock] at hk; omega)

end Go.Proofs.Ytgfpnkakglgokaa
