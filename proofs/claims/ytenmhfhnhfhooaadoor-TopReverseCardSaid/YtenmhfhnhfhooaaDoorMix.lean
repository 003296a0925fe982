/- The walks of package mix's Mix, Letters, Bits, Exact. -/
import Derived.Test.YtenmhfhnhfhooaaDoorLetters
namespace Go.Proofs.YtenmhfhnhfhooaaDoor
open Go.RowKit Go.Shelf
attribute [local go_sem] Oper.semAt_some

theorem letters_L (n : Nat) (hn : 1 ≤ n) (Bn : Nat) (s : ByteArray) (hs : s.size ≤ maxLen) (w : World) (hB : Bn < w.heap.size) (hc : w.cell? ⟨Bn, 0, none⟩ = some (.string s)) :
    SeqL Fence.wide n Tryd.prog 28 #[.pointer (some ⟨Bn, 0, none⟩)] (fun x : Nat × Nat => #[Value.int .i64 (x.1 : Int), Value.int .i64 (x.2 : Int)]) (fun W W' => W'.cell? ⟨Bn, 0, none⟩ = W.cell? ⟨Bn, 0, none⟩) (letL s.data.toList) w :=
  fun l J Jx W hW hJ _ hY h0 => letters1_in n hn l Bn W.heap.size s hs J Jx hJ hY W ((hW.cell (p := ⟨Bn, 0, none⟩) hB).trans hc) h0

set_option maxRecDepth 100000 in
set_option maxHeartbeats 1000000 in
theorem Letters_in (n : Nat) (hn : 4 ≤ n) (s : ByteArray) (hs : s.size ≤ maxLen) (w : World) :
    CallsIn Fence.wide n Tryd.prog 10 #[.string s] w fun e w' => e = .returned (.int .i64 ((letL s.data.toList).length : Int)) ∧ Below w.heap.size w w' := by
  unfold maxLen at hs
  have h1n : 1 ≤ n := by omega
  have hle : (letL s.data.toList).length ≤ s.size := by
    unfold letL
    split
    · have := lp_length_le s.data.toList s.data.toList.length; simpa using this
    · simp
  refine callsIn_of_wp_marks Tryd.func10 rfl trivial ?_ rfl
  simp only [Tryd.ntmps10, List.size_toArray, List.length_cons, List.length_nil, Nat.reduceAdd, Nat.reduceSub, Array.replicate_succ, Array.replicate_zero, List.push_toArray, List.append_toArray, List.nil_append, List.cons_append]
  gi_wp2_with (refine ⟨trivial, ?_⟩; gi_at_call 16; refine (letters_in _ s _).mono ?_; rintro e w' ⟨rfl, rfl⟩)
  obtain ⟨W0, hW0⟩ : ∃ W0, (w.alloc (.cells #[.int .i64 0] 3)).alloc (.cells #[.string s] 9) = W0 := ⟨_, rfl⟩
  have hsz0 : W0.heap.size = w.heap.size + 2 := by rw [← hW0]; simp
  have hbW : Below w.heap.size w W0 := by rw [← hW0]; exact ((Below.refl _ _).alloc (Nat.le_refl _) _).alloc (by simp) _
  have hblk : Blk W0 w.heap.size 3 #[.int .i64 0] := by rw [← hW0]; exact (Blk.new w _ _).alloc _
  have hstr : Blk W0 (w.heap.size + 1) 9 #[.string s] := by
    rw [← hW0]
    have := Blk.new (w.alloc (.cells #[.int .i64 0] 3)) 9 #[.string s]
    rw [World.size_alloc] at this
    exact this
  rw [hW0]
  clear hW0
  apply rangeL rfl (by omega) (gf := 28) (lb := #[.pointer (some ⟨w.heap.size + 1, 0, none⟩)]) rfl trivial (enters_of Tryd.func28 (by kernel_rfl) rfl)
    (letters_L (n - 1) (by omega) (w.heap.size + 1) s (by unfold maxLen; omega) W0 (by omega) (hstr.cell 0)) (fun h k => k.trans h) (kp_b (by omega)) (Below.refl _ _) (fun _ => rfl)
    (fun (pre : List (Nat × Nat)) W => (Blk W w.heap.size 3 #[.int .i64 (pre.length : Int)] ∧ Blk W (w.heap.size + 1) 9 #[.string s]) ∧ Below w.heap.size w W)
    (fun _ _ _ => False)
    (OwnFrom.and (OwnFrom.and ((blk_own _ _ (fun pre : List (Nat × Nat) => #[.int .i64 (pre.length : Int)])).from _) ((blk_own _ _ (fun _ => #[.string s])).from _)) (ownFrom_below (Nat.le_refl _) (by omega)))
    (fun _ _ _ _ _ h => h.elim)
    ⟨⟨hblk, hstr⟩, hbW⟩
  case hassign =>
    intro l x W K hK
    gi_wp2
    exact hK
  case hbody =>
    rintro l pre x W ⟨⟨hB, hst⟩, hbW⟩ hpre
    have c0 : W.cell? ⟨w.heap.size, 0, none⟩ = some (.int .i64 (pre.length : Int)) := hB.cell 0
    have f0 := hB.frozen 0
    have hlt := hB.lt
    have hlen := prefix_lt hpre
    have hlI : (pre.length : Int) < 9223372036854775807 := by omega
    clear hpre hlen
    gi_wp2_with (fail)
    refine ⟨KeepsOthers.setCell _ _ _, World.cell?_setCell_other _ _ _ _ (by simp), ⟨?_, hst.far (by simp) _⟩, hbW.setCell (p := ⟨w.heap.size, 0, none⟩) (Nat.le_refl _) _⟩
    rw [List.length_append]
    exact hB.set_ 0 _
  case hdone =>
    rintro D W hD ⟨⟨hB, hst⟩, hbW⟩ hK
    have c0 : W.cell? ⟨w.heap.size, 0, none⟩ = some (.int .i64 ((letL s.data.toList).length : Int)) := hB.cell 0
    have HKB : Hid (Below w.heap.size w (W.putObj D (.deferred none))) := Lib.hid (hbW.trans (belowK_b (w := w) (Nat.le_refl _) W D _ _ (by omega) hK rfl rfl))
    clear hB hst hbW
    gi_wp2_with (fail)
    exact ⟨by simp, .inl ⟨_, _, rfl, run_takeDeferred hK, _, results_tmp rfl _ _ _, rfl, HKB.out⟩⟩
  case hstop =>
    rintro D c pre W hD _ h _
    exact h.elim

theorem Exact_any (a b : ByteArray) (ha : a.size ≤ maxLen) (w : World) :
    Calls Tryd.prog 11 #[.string a, .string b] w fun e w' => e = .returned (.bool ((a.toList == b.toList) && isName a.data.toList)) ∧ Below w.heap.size w w' := by
  have hC := fun W => Check_any a ha W
  have hcase := chk_cases a.data.toList
  generalize chkN a.data.toList = c at hC hcase
  generalize isName a.data.toList = na at hcase ⊢
  have HC := Lib.hid hC
  cases hq : (a.toList == b.toList)
  · clear hC hcase
    go_enter Tryd.func11, Tryd.ntmps11
    go_wp2_with (fail)
    go_ret
    exact ⟨rfl, Below.refl _ _⟩
  · rcases hcase with ⟨rfl, rfl⟩ | ⟨rfl, rfl⟩
    all_goals
      clear hC
      go_enter Tryd.func11, Tryd.ntmps11
      go_wp2_with (fail)
      refine (HC.out _).mono ?_
      rintro e w1 ⟨rfl, hb1⟩
      have HB := Lib.hid hb1
      clear hb1
      go_wp2_with (fail)
      go_ret
      exact ⟨rfl, HB.out⟩
end Go.Proofs.YtenmhfhnhfhooaaDoor
