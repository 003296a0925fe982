/- The walk of package sip's Words. -/
import Derived.Test.YthpicdilonlgiaaWords
import Derived.RangeFuncBox
import Derived.RangeFuncFrom
import Derived.Maps.AppendAt
namespace Go.Proofs.Ythpicdilonlgiaa
open Go.RowKit Go.Shelf
attribute [local go_sem] Oper.semAt_some

/-- What a word is as a value; a list of words. -/
def u8v (x : BitVec 64) : Value := .int .u64 (U x)

/-- sip.words' value, as an iterator: all words come, or some, if a round says that it wants no more. -/
theorem words_stops (n : Nat) (hn : 1 ≤ n) (Bn : Nat) (s : ByteArray) (hs : s.size ≤ maxLen) (w : World) (hB : Bn < w.heap.size) (hc : w.cell? ⟨Bn, 0, none⟩ = some (.string s)) :
    SeqStopsK Fence.wide n Try.prog 115 #[.pointer (some ⟨Bn, 0, none⟩)] (fun x : BitVec 64 => #[Value.int .u64 (U x)]) (fun W W' => W'.cell? ⟨Bn, 0, none⟩ = W.cell? ⟨Bn, 0, none⟩)
      (fun ys => ys = wordsB s.data.toList) (fun pre => pre <+: wordsB s.data.toList) (wordsB s.data.toList).length w :=
  fun l J Jx W hW hJ _ hY h0 => words1_in n hn l Bn W.heap.size s hs J Jx hJ hY W ((hW.cell (p := ⟨Bn, 0, none⟩) hB).trans hc) h0

theorem kp_b {w : World} {Bn : Nat} (hB : Bn < w.heap.size) (W : World) (l : Nat) (o o' : Obj) (hl : w.heap.size ≤ l) (_ : W.heap[l]? = some o) (_ : o.isCells = false) (_ : o.isWalk = false) :
    (W.putObj l o').cell? ⟨Bn, 0, none⟩ = W.cell? ⟨Bn, 0, none⟩ :=
  World.cell?_of_block (World.putObj_heap_other (show Bn ≠ l by omega))

set_option maxRecDepth 100000 in
set_option maxHeartbeats 1000000 in
theorem Words_in (n : Nat) (hn : 4 ≤ n) (s : ByteArray) (hs : s.size ≤ 140737488351232) (w : World) :
    CallsIn Fence.wide n Try.prog 44 #[.string s] w fun e w' => ∃ v, e = .returned v ∧ w'.ownsRow w.heap.size 35 1 v (wordsB s.data.toList).length ((wordsB s.data.toList).map u8v) ∧ Below w.heap.size w w' := by
  obtain ⟨i0, hi, hz0, hz1, hz2⟩ := info_parts info_u64
  have hs1 : (s.size : Int) ≤ 140737488351232 := by omega
  have HS := Lib.hid hs
  have h1n : 1 ≤ n := by omega
  clear hs
  refine callsIn_of_wp_marks Try.func44 rfl trivial ?_ rfl
  simp only [Try.ntmps44, List.size_toArray, List.length_cons, List.length_nil, Nat.reduceAdd, Nat.reduceSub, Array.replicate_succ, Array.replicate_zero, List.push_toArray, List.append_toArray, List.nil_append, List.cons_append]
  gi_wp2_with (first
    | (gi_at_make; refine wpListIn_make_own _ rfl _ _ 43 rfl w.heap.size 35 i0 (.int .u64 0) 1 Try.underlying43 hi hz0 hz1 .i64 .i64 ((s.size : Int) / 8 + 1) (s.size / 8 + 1) rfl rfl (by omega) (by rw [hz2]; have := HS.out; omega) (by have := HS.out; unfold maxLen; omega) (Nat.le_refl _) ?_; intro w1 hown hgrow)
    | (refine ⟨trivial, ?_⟩; gi_at_call 85; refine (words_in _ s _).mono ?_; rintro e w' ⟨rfl, rfl⟩))
  obtain ⟨W0, hW0⟩ : ∃ W0, (w1.alloc (.cells #[.slice (some ⟨w.heap.size, 0, none⟩) 0 (s.size / 8 + 1)] 43)).alloc (.cells #[.string s] 9) = W0 := ⟨_, rfl⟩
  have hsz0 : W0.heap.size = w1.heap.size + 2 := by rw [← hW0]; simp
  have hbw1 : Below w.heap.size w w1 := (Below.refl _ _).grown hgrow (Nat.le_refl _) (by intro k hk; cases hk)
  have hbW0 : Below w.heap.size w W0 := by rw [← hW0]; exact (hbw1.alloc hbw1.size _).alloc (by have := hbw1.size; simp; omega) _
  have hbox : Boxed W0 w1.heap.size 43 (.slice (some ⟨w.heap.size, 0, none⟩) 0 (s.size / 8 + 1)) := by rw [← hW0]; exact (Boxed.new w1 _ _).alloc _
  have hstr : Boxed W0 (w1.heap.size + 1) 9 (.string s) := by
    rw [← hW0]
    have := Boxed.new (w1.alloc (.cells #[.slice (some ⟨w.heap.size, 0, none⟩) 0 (s.size / 8 + 1)] 43)) 9 (.string s)
    rw [World.size_alloc] at this
    exact this
  have hown0 : W0.ownsRow w.heap.size 35 1 (.slice (some ⟨w.heap.size, 0, none⟩) 0 (s.size / 8 + 1)) 0 [] := by rw [← hW0]; exact (hown.alloc _).alloc _
  have hge : w.heap.size ≤ w1.heap.size := hbw1.size
  rw [hW0]
  clear hW0 hown hgrow
  refine wpIn_rangeFunc_ownF rfl (by omega) (gf := 115) (lb := #[.pointer (some ⟨w1.heap.size + 1, 0, none⟩)]) rfl trivial (enters_of Try.func115 (by kernel_rfl) rfl)
    (words_stops (n - 1) (by omega) (w1.heap.size + 1) s (by have := HS.out; unfold maxLen; omega) W0 (by omega) hstr.cell) (fun h k => k.trans h) (kp_b (by omega)) (Below.refl _ _) (fun _ => rfl)
    (fun pre W => ((∃ v, Boxed W w1.heap.size 43 v ∧ W.ownsRow w.heap.size 35 1 v pre.length (pre.map u8v) ∧ True) ∧ Boxed W (w1.heap.size + 1) 9 (.string s)) ∧ Below w.heap.size w W)
    (fun _ _ _ => False)
    (OwnFrom.and (OwnFrom.and ((holdsRow_own w.heap.size w1.heap.size 43 35 1 (fun pre : List (BitVec 64) => pre.length) (fun pre => pre.map u8v) (fun _ _ => True)).from _) ((boxed_own _ _ (fun _ => .string s)).from _)) (ownFrom_below (Nat.le_refl _) (by omega)))
    (fun _ _ _ _ _ h => h.elim)
    ⟨⟨⟨_, hbox, hown0, trivial⟩, hstr⟩, hbW0⟩
    (fun x => { tmps := #[.string s, undef, .slice none 0 0, .pointer (some ⟨w1.heap.size, 0, none⟩), .int .u64 (U x), .string s, .int .i64 (s.size : Int), .int .i64 ((s.size : Int) / 8), .int .i64 ((s.size : Int) / 8 + 1), .slice (some ⟨w.heap.size, 0, none⟩) 0 (s.size / 8 + 1), .string s, .func (.func 115) #[] #[.pointer (some ⟨w1.heap.size + 1, 0, none⟩)], .int .u64 (U x), undef, undef, undef, undef, undef], defers := [] })
    ?assign ?body ?done ?stop
  case assign =>
    intro l x W K hK
    gi_wp2
    exact hK
  case body =>
    rintro l pre x W ⟨⟨⟨v, hv, hrow, _⟩, hst⟩, hB⟩ hlen
    rw [wordsB_length] at hlen
    have hsd : s.data.toList.length = s.size := by simp
    rw [hsd] at hlen
    have hlen2 : 8 * pre.length ≤ 140737488351232 := by have := HS.out; omega
    have HL := Lib.hid hlen2
    have hc := hv.cell
    have hf := hv.frozen
    have hbs := hB.size
    clear hlen hlen2 hsd
    gi_wp2_with (gi_at_builtin; refine wpListIn_append_own _ rfl _ _ 43 rfl w.heap.size 35 i0 (.int .u64 0) 1 8 Try.underlying43 hi hz0 hz1 hz2 rfl (by decide) _ _ _ rfl (hrow.alloc _) ⟨W.heap.size, 0, none⟩ 1 1 [u8v x] rfl rfl (cell_one_new _ _ _) (by simp [Value.oneCell', u8v]) (by have := HL.out; unfold maxLen; omega) (by have := HL.out; omega) (by simp; omega) ?_; intro v' w2 hown' hgrow _; obtain ⟨g', cap', rfl⟩ := ownsRow_succ hown'; obtain ⟨hv1, hv2, hr2, hk2, hb2⟩ := hv.appended (by decide) hrow hbs hge hown' hgrow; have hc1 := hv1.cell; have hf1 := hv1.frozen)
    have hst2 := ((hst.alloc (.cells #[.int .u64 (U x)] 35)).kept hgrow (hst.not_row (by decide) hrow)).other (B' := w1.heap.size) (by omega) (.slice (some ⟨g', 0, none⟩) (pre.length + 1) cap')
    refine ⟨hk2, hst2.cell.trans hst.cell.symm, ⟨⟨_, hv2, ?_, trivial⟩, hst2⟩, hB.trans hb2⟩
    rw [List.length_append, List.map_append]
    exact hr2
  case done =>
    rintro D ys W hD rfl ⟨⟨⟨v, hv, hrow, _⟩, hst⟩, hB⟩ hK
    have hc := hv.cell
    gi_wp2
    refine ⟨by simp, .inl ⟨_, _, rfl, run_takeDeferred hK, ?_⟩⟩
    exact ⟨_, results_tmp rfl _ _ _, v, rfl, ownsRow_putObj hrow _ hK rfl, hB.trans (belowK_b (w := w) (Nat.le_refl _) W D _ _ (by omega) hK rfl rfl)⟩
  case stop =>
    rintro D c pre W hD _ h _
    exact h.elim

theorem Words_any (s : ByteArray) (hs : s.size ≤ 140737488351232) (w : World) :
    Calls Try.prog 44 #[.string s] w fun e w' => ∃ v, e = .returned v ∧ w'.ownsRow w.heap.size 35 1 v (wordsB s.data.toList).length ((wordsB s.data.toList).map u8v) ∧ Below w.heap.size w w' :=
  callsIn_wide.1 (Words_in 4 (Nat.le_refl _) s hs w)
end Go.Proofs.Ythpicdilonlgiaa
