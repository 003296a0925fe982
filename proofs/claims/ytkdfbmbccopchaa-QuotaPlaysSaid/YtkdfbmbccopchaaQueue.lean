/- The walks of package quota's New, Len, Of, Row. -/
import Derived.Test.YtkdfbmbccopchaaQueueM
import Derived.Test.YtkdfbmbccopchaaRef01E
import Derived.Deep.DeepMust
import Derived.WalkLawsBesides
import Derived.Deep.QuietTactic
import Derived.BigQuiet
import Derived.BigRegion
import Derived.RegionTactic
import Derived.Deep.RegionHeld3
namespace Go.Proofs.Ytkdfbmbccopchaa
open Go.RowKit Go.Lib

set_option maxRecDepth 100000 in
theorem within_q (x : Int) (w : World) : Calls Try.prog 49 #[.int .i64 x] w fun e w' => e = .returned (.bool (decide (1 ≤ x) && decide (x ≤ 1024))) ∧ w = w' := by
  by_cases h1 : 1 ≤ x
  · by_cases h2 : x ≤ 1024
    · have hr : (decide (1 ≤ x) && decide (x ≤ 1024)) = true := by simp [h1, h2]
      rw [hr]
      clear hr
      go_enter Try.func49, Try.ntmps49
      go_wp2_with (fail)
      go_ret
      exact ⟨rfl, rfl⟩
    · have hr : (decide (1 ≤ x) && decide (x ≤ 1024)) = false := by simp [h2]
      rw [hr]
      clear hr
      go_enter Try.func49, Try.ntmps49
      go_wp2_with (fail)
      go_ret
      exact ⟨rfl, rfl⟩
  · have hr : (decide (1 ≤ x) && decide (x ≤ 1024)) = false := by simp [h1]
    rw [hr]
    clear hr
    go_enter Try.func49, Try.ntmps49
    go_wp2_with (fail)
    go_ret
    exact ⟨rfl, rfl⟩

/-- What New gives back. -/
def NewPost (room each : Int) (w : World) (e : Ending) (w' : World) : Prop :=
  Below w.heap.size w w' ∧ ((∃ (r c g : Nat), room = (r : Int) ∧ each = (c : Int) ∧ 1 ≤ r ∧ r ≤ 1024 ∧ 1 ≤ c ∧ c ≤ 1024 ∧ e = .returned (.tuple #[.pointer (some ⟨g, 0, none⟩), .int .i64 0]) ∧ w.heap.size ≤ g ∧ QS w' g 0 r c [] (fun k => w.heap.size ≤ k ∧ k < w'.heap.size)) ∨
    (¬ (1 ≤ room ∧ room ≤ 1024 ∧ 1 ≤ each ∧ each ≤ 1024) ∧ e = .returned (.tuple #[.pointer none, .int .i64 1])))

set_option maxRecDepth 100000 in
set_option maxHeartbeats 1000000 in
theorem New_q (room each : Int) (w : World) : Calls Try.prog 11 #[.int .i64 room, .int .i64 each] w (NewPost room each w) := by
  have HW := Lib.hid (fun x W => within_q x W)
  obtain ⟨a, ha⟩ : ∃ a, (decide (1 ≤ room) && decide (room ≤ 1024)) = a := ⟨_, rfl⟩
  obtain ⟨b, hb⟩ : ∃ b, (decide (1 ≤ each) && decide (each ≤ 1024)) = b := ⟨_, rfl⟩
  have H1 := Lib.hid (fun W => within_q room W)
  have H2 := Lib.hid (fun W => within_q each W)
  rw [ha] at H1
  rw [hb] at H2
  have HA := Lib.hid ha
  have HB := Lib.hid hb
  clear ha hb HW
  cases a with
  | false =>
    go_enter Try.func11, Try.ntmps11
    go_wp2_with (fail)
    with_reducible refine (H1.out _).mono ?_
    rintro e w1 ⟨rfl, rfl⟩
    go_wp2_with (fail)
    go_ret2
    refine ⟨Below.refl _ _, .inr ⟨fun h => ?_, rfl⟩⟩
    have := HA.out
    simp [h.1, h.2.1] at this
  | true =>
    cases b with
    | false =>
      go_enter Try.func11, Try.ntmps11
      go_wp2_with (fail)
      with_reducible refine (H1.out _).mono ?_
      rintro e w1 ⟨rfl, rfl⟩
      go_wp2_with (fail)
      with_reducible refine (H2.out _).mono ?_
      rintro e w1 ⟨rfl, rfl⟩
      go_wp2_with (fail)
      go_ret2
      refine ⟨Below.refl _ _, .inr ⟨fun h => ?_, rfl⟩⟩
      have := HB.out
      simp [h.2.2.1, h.2.2.2] at this
    | true =>
      have hmm : ∀ W : World, (Instr.makeMap 90 none).run Try.prog W = .ok (.map (some W.heap.size)) (W.alloc (.map #[] 0)) := fun W => rfl
      go_enter Try.func11, Try.ntmps11
      go_wp2_with (fail)
      with_reducible refine (H1.out _).mono ?_
      rintro e w1 ⟨rfl, rfl⟩
      go_wp2_with (fail)
      with_reducible refine (H2.out _).mono ?_
      rintro e w1 ⟨rfl, rfl⟩
      go_wp2_with (fail)
      go_ret2
      have h1 := HA.out
      have h2 := HB.out
      simp only [Bool.and_eq_true, decide_eq_true_eq] at h1 h2
      obtain ⟨r, rfl⟩ := Int.eq_ofNat_of_zero_le (show 0 ≤ room by omega)
      obtain ⟨c, rfl⟩ := Int.eq_ofNat_of_zero_le (show 0 ≤ each by omega)
      refine ⟨((Below.refl _ _).alloc (Nat.le_refl _) _).alloc (by simp) _, .inl ⟨r, c, _, rfl, rfl, by omega, by omega, by omega, by omega, rfl, by simp, ?_⟩⟩
      refine ⟨w.heap.size, nilS, fun _ => nilS, ⟨?_, Sl.nil _ _, ?_⟩, ⟨⟨List.nodup_nil, fun p hp => absurd hp List.not_mem_nil⟩, fun a => Sl.nil _ _, fun _ _ => rfl⟩, ⟨⟨?_, ?_, ?_⟩, ?_, ?_, ?_⟩⟩
      · have := Blk.new (w.alloc (.map #[] 0)) 92 #[.int .i64 (r : Int), .int .i64 (c : Int), .int .i64 0, nilS, .map (some w.heap.size)]
        rw [World.size_alloc] at this
        exact this
      · exact (MapF.new w).keepK (K := fun k => k < (w.alloc (.map #[] 0)).heap.size) ((KeepK.refl _ _).alloc (fun i hi => hi) _) (by simp)
      · simp <;> omega
      · simp <;> omega
      · simp
      · intro k hk; simp [nilS, Value.ownBlock] at hk
      · intro a k hk; simp [nilS, Value.ownBlock] at hk
      · intro a b k hk; simp [nilS, Value.ownBlock] at hk

set_option maxRecDepth 100000 in
theorem Len_q {g n room each : Nat} {cl : Cl} {O : Nat → Prop} (w : World) (h : QS w g n room each cl O) :
    Calls Try.prog 13 #[.pointer (some ⟨g, 0, none⟩)] w fun e w' => e = .returned (.int .i64 (manyC cl : Int)) ∧ w = w' := by
  obtain ⟨mb, rv, F, ⟨h1, h2, h3⟩, _, _⟩ := h
  have c2 : w.cell? ⟨g, 2, none⟩ = some (.int .i64 (manyC cl : Int)) := h1.cell 2
  generalize (manyC cl : Int) = m at c2 ⊢
  clear h1 h2 h3
  go_enter Try.func13, Try.ntmps13
  go_wp2_with (fail)
  go_ret
  exact ⟨rfl, rfl⟩

set_option maxRecDepth 100000 in
theorem Of_q {g n room each : Nat} {cl : Cl} {O : Nat → Prop} (w : World) (h : QS w g n room each cl O) (a : Int) (h0 : 0 ≤ a) (hm : a ≤ 4294967295) :
    Calls Try.prog 22 #[.pointer (some ⟨g, 0, none⟩), .int .u32 a] w fun e w' => e = .returned (.int .i64 ((getC cl a).length : Int)) ∧ w = w' := by
  obtain ⟨mb, rv, F, ⟨h1, h2, h3⟩, ⟨_, h5, _⟩, _⟩ := h
  have c4 : w.cell? ⟨g, 4, none⟩ = some (.map (some mb)) := h1.cell 4
  have hl := h3.look h0 hm
  obtain ⟨A, c, hF, _, _⟩ := (h5 a).shape
  rw [hF] at hl
  generalize (getC cl a).length = m at hl ⊢
  clear h1 h2 h3 h5 hF h0 hm
  go_enter Try.func22, Try.ntmps22
  go_wp2_with (fail)
  go_ret
  exact ⟨rfl, rfl⟩

/-- A slice that is made anew and reads as xs. -/
def FreshPost (n : Nat) (xs : List Value) (w : World) (e : Ending) (w' : World) : Prop :=
  ∃ v, e = .returned v ∧ Sl w' 1 v n xs ∧ (∀ k, v.ownBlock = some k → w.heap.size ≤ k) ∧ Below w.heap.size w w'

set_option maxRecDepth 100000 in
set_option maxHeartbeats 1000000 in
theorem cloneU_any (v : Value) (n : Nat) (xs : List Value) (w : World) (hS : Sl w 1 v n xs) (h1 : ∀ u ∈ xs, u.oneCell' = true) (hn : n ≤ 1000000) :
    Calls Try.prog 51 #[v] w (FreshPost n xs w) := by
  obtain ⟨j0, hj0, hy0, hy1, hy2⟩ := info_parts info_u32d
  rcases hS.2 with ⟨rfl, rfl⟩ | ⟨g, cap, rfl, hg, hnc, hcm, h3, h4⟩
  · have hx : xs = [] := List.eq_nil_of_length_eq_zero (by have := hS.1; omega)
    subst hx
    have hq := fun w : World => Lib.run_eql_slice_nil w _ _ none 0 0 0 0 Try.underlying33
    clear hS h1 hn hj0 hy0 hy1 hy2
    go_enter Try.func51, Try.ntmps51
    go_wp2_with (fail)
    go_ret
    exact ⟨_, rfl, Sl.nil _ _, fun k hk => by simp [Value.ownBlock] at hk, Below.refl _ _⟩
  · have hlen : xs.length = n := by have := hS.1; omega
    have hsrc : Src Try.prog 1 33 (.slice (some ⟨g, 0, none⟩) n cap) n xs (w.alloc (.cells #[] 28)) := Src.ofSlice _ Try.underlying33 ⟨g, 0, none⟩ n cap xs (by omega) (fun j u hu => by
      rw [Go.WideShapes.add_plain, Nat.zero_add, World.cell?_alloc_lt _ _ _ hg]
      exact h4 j u hu) h1
    have HSR := Lib.hid (And.intro hsrc hn)
    have hq := fun w : World => Lib.run_eql_slice_nil w _ _ (some ⟨g, 0, none⟩) n cap 0 0 Try.underlying33
    clear hS h1 h3 h4 hlen hsrc hnc hcm hn
    go_enter Try.func51, Try.ntmps51
    go_wp2_with (at_builtin; go_must (refine wpList_append_sl _ rfl (.tmp 5) (.tmp 6) 33 33 rfl 28 j0 (.int .u32 0) 1 4 Try.underlying33 hj0 hy0 hy1 hy2 rfl (.slice (some ⟨w.heap.size, 0, none⟩) 0 0) 0 [] rfl (sl_empty w _) _ rfl n xs HSR.out.1 (by have := HSR.out.2; unfold maxLen; omega) (by have := HSR.out.2; omega) ?_); intro v3 w3 hs3 hg3 hv3; have H3 := Lib.hid (And.intro hs3 (And.intro hg3 hv3)); clear hs3 hg3 hv3)
    go_ret
    obtain ⟨hs3, hg3, hv3⟩ := H3.out
    refine ⟨v3, rfl, by simpa using hs3, own_from (fun k hk => by simp [Value.ownBlock] at hk; omega) (by simp) hv3, ((Below.refl _ _).alloc (Nat.le_refl _) _).grown hg3 (by simp) (fun k hk => by simp [Value.ownBlock] at hk; omega)⟩

set_option maxRecDepth 100000 in
theorem Row_q {g n room each : Nat} {cl : Cl} {O : Nat → Prop} (w : World) (h : QS w g n room each cl O) (hn : cl.length ≤ 1000000) :
    Calls Try.prog 14 #[.pointer (some ⟨g, 0, none⟩)] w (FreshPost cl.length (cl.map fun p => u32V p.1) w) := by
  obtain ⟨mb, rv, F, ⟨h1, h2, h3⟩, _, _⟩ := h
  have c3 : w.cell? ⟨g, 3, none⟩ = some rv := h1.cell 3
  have HC := Lib.hid (cloneU_any rv cl.length (cl.map fun p => u32V p.1) w h2 (fun u hu => by obtain ⟨p, _, rfl⟩ := List.mem_map.1 hu; rfl) hn)
  clear h1 h2 h3 hn
  go_enter Try.func14, Try.ntmps14
  go_wp2_with (fail)
  with_reducible refine HC.out.mono ?_
  rintro e w1 ⟨v, rfl, h⟩
  go_wp2_with (fail)
  go_ret
  exact ⟨v, rfl, h⟩
end Go.Proofs.Ytkdfbmbccopchaa
