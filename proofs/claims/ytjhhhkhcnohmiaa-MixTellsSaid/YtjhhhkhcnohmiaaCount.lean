/- The walks of package label's Count and Parent. -/
import Derived.Test.YtjhhhkhcnohmiaaLabels
namespace Go.Proofs.Ytjhhhkhcnohmiaa
open Go.RowKit Go.Shelf
attribute [local go_sem] Oper.semAt_some

theorem Out.below {B X N : Nat} {w A A' : World} (h : Below N w A) (ho : Out B X A A') (hN : N ≤ w.heap.size) (hB : N ≤ B) : Below N w A' :=
  ⟨ho.os.trans h.os, ho.tape.trans h.tape, ho.output.trans h.output, Nat.le_trans h.size ho.size, fun i hi => (ho.block i (Nat.lt_of_lt_of_le hi (Nat.le_trans hN h.size)) (.inl (by omega))).trans (h.block i hi)⟩
theorem Out.blk {B X b : Nat} {A A' : World} {t : TypeId} {cs : Array Value} (h : Blk A b t cs) (ho : Out B X A A') (hb : b < B) : Blk A' b t cs :=
  (ho.block b h.lt (.inl hb)).trans h
theorem labs_length_le (l : Bs) : (labs l).1.length ≤ l.length := by
  have h := enc_le l
  have : ∀ ls : List Bs, ls.length ≤ (enc ls).length := by
    intro ls
    induction ls with
    | nil => simp
    | cons x xs ih => rw [enc_length_cons]; simp; omega
  have := this (labs l).1
  omega
theorem namL_length_le (l : Bs) : (namL l).length ≤ l.length := by
  unfold namL
  split
  · exact labs_length_le l
  · simp

set_option maxRecDepth 100000 in
set_option maxHeartbeats 1000000 in
theorem Count_any (s : ByteArray) (hs : s.size ≤ maxLen) (w : World) :
    Calls Try.prog 24 #[.string s] w fun e w' => e = .returned (.int .i64 ((namL s.data.toList).length : Int)) ∧ Below w.heap.size w w' := by
  obtain ⟨n, hn⟩ : ∃ n : Nat, 8 ≤ n := ⟨8, by omega⟩
  refine (callsIn_wide (n := n)).1 ?_
  have h1n : 1 ≤ n := by omega
  have hle : (namL s.data.toList).length ≤ s.size := by have := namL_length_le s.data.toList; simpa using this
  refine callsIn_of_wp_marks Try.func24 rfl trivial ?_ rfl
  simp only [Try.ntmps24, List.size_toArray, List.length_cons, List.length_nil, Nat.reduceAdd, Nat.reduceSub, Array.replicate_succ, Array.replicate_zero, List.push_toArray, List.append_toArray, List.nil_append, List.cons_append]
  gi_wp2_with (refine ⟨trivial, ?_⟩; gi_at_call 55; refine (Labels_in _ s _).mono ?_; rintro e w' ⟨rfl, rfl⟩)
  obtain ⟨W0, hW0⟩ : ∃ W0, (w.alloc (.cells #[.int .i64 0] 3)).alloc (.cells #[.string s] 9) = W0 := ⟨_, rfl⟩
  have hsz0 : W0.heap.size = w.heap.size + 2 := by rw [← hW0]; simp
  have hbW : Below w.heap.size w W0 := by rw [← hW0]; exact ((Below.refl _ _).alloc (Nat.le_refl _) _).alloc (by simp) _
  have hblk : Blk W0 w.heap.size 3 #[.int .i64 0] := by rw [← hW0]; exact (Blk.new w _ _).alloc _
  have hstr : Blk W0 (w.heap.size + 1) 9 #[.string s] := by
    rw [← hW0]
    have := Blk.new (w.alloc (.cells #[.int .i64 0] 3)) 9 #[.string s]
    rw [World.size_alloc] at this
    exact this
  rw [hW0]
  clear hW0
  apply rangeN (gf := 80) (lb := #[.pointer (some ⟨w.heap.size + 1, 0, none⟩)]) rfl (enters_of Try.func80 (by kernel_rfl) rfl)
    (Labels1_N (w.heap.size + 1) s hs W0 hstr) (by omega) (Below.refl _ _) (fun _ => rfl)
    (fun _ pre V => Blk V w.heap.size 3 #[.int .i64 (pre.length : Int)] ∧ Below w.heap.size w V)
    (fun _ _ _ _ => False)
    ?hI (fun _ _ _ _ _ h => h.elim) ?h0
  case hI =>
    rintro X pre A A' ⟨h1, h2⟩ ho
    exact ⟨ho.blk h1 (by omega), ho.below h2 (Nat.le_refl _) (by omega)⟩
  case h0 =>
    intro X V hV hX
    exact ⟨(hV.block _ (by omega)).trans hblk, hbW.trans (hV.mono hbW.size)⟩
  case hassign =>
    intro l x V K hK
    gi_wp2
    exact hK
  case hbody =>
    rintro l X pre x V hV ⟨hB, hbV⟩ hpre
    have c0 : V.cell? ⟨w.heap.size, 0, none⟩ = some (.int .i64 (pre.length : Int)) := hB.cell 0
    have f0 := hB.frozen 0
    have hlen := prefix_lt hpre
    have hlI : (pre.length : Int) < 9223372036854775807 := by unfold maxLen at hs; omega
    have HV := Lib.hid (And.intro hbV (And.intro hsz0 (And.intro hV hbW)))
    clear hpre hlen hs hle hbV hsz0 hV hbW hn hblk hstr
    gi_wp2_with (fail)
    obtain ⟨hbV, hsz0, hV, hbW⟩ := HV.out
    refine ⟨.cell _ (by show w.heap.size < _; omega) (by show w.heap.size ≠ _; omega), ?_, hbV.setCell (p := ⟨w.heap.size, 0, none⟩) (Nat.le_refl _) _⟩
    rw [List.length_append]
    exact hB.set_ 0 _
  case hdone =>
    rintro D X V hD hD2 ⟨hB, hbV⟩ hK
    have c0 : V.cell? ⟨w.heap.size, 0, none⟩ = some (.int .i64 ((namL s.data.toList).length : Int)) := hB.cell 0
    have HKB : Hid (Below w.heap.size w (V.putObj D (.deferred none))) := Lib.hid (hbV.trans (belowK_b (w := w) (Nat.le_refl _) V D _ _ (by omega) hK rfl rfl))
    clear hB hbV
    gi_wp2_with (fail)
    exact ⟨by simp, .inl ⟨_, _, rfl, run_takeDeferred hK, _, results_tmp rfl _ _ _, rfl, HKB.out⟩⟩
  case hstop =>
    rintro D X c pre V hD _ _ h _
    exact h.elim
end Go.Proofs.Ytjhhhkhcnohmiaa
