/- A queue that was made by the caller: its calls, told by what waits alone; the walk of hardtacklaw44.lives. -/
import Derived.Test.YtkdfbmbccopchaaQDrop
namespace Go.Proofs.Ytkdfbmbccopchaa
open Go.RowKit Go.Lib

/-- A queue that was made behind w0, beside the blocks K. -/
def FG (w0 wr : World) (g room each bound : Nat) (cl : Cl) (K : Nat → Prop) : Prop :=
  ∃ (O : Nat → Prop) (n' : Nat), QS wr g n' room each cl O ∧ (∀ i, O i → w0.heap.size ≤ i ∧ i < wr.heap.size ∧ ¬ K i) ∧ n' ≤ bound ∧ Below w0.heap.size w0 wr
section
variable {w0 wr w' : World} {g room each b : Nat} {cl cl' : Cl} {K : Nat → Prop}
theorem FG.below (h : FG w0 wr g room each b cl K) : Below w0.heap.size w0 wr := by
  obtain ⟨_, _, _, _, _, hb⟩ := h
  exact hb
theorem FG.okc (h : FG w0 wr g room each b cl K) : OkC cl := by
  obtain ⟨_, _, ⟨_, _, _, _, ⟨h4, _⟩, _⟩, _⟩ := h
  exact h4
theorem FG.more (h : FG w0 wr g room each b cl K) {b' : Nat} (hb : b ≤ b') : FG w0 wr g room each b' cl K := by
  obtain ⟨O, n', h1, h2, h3, h4⟩ := h
  exact ⟨O, n', h1, h2, by omega, h4⟩
theorem FG.less (h : FG w0 wr g room each b cl K) {K' : Nat → Prop} (hk : ∀ i, K' i → K i) : FG w0 wr g room each b cl K' := by
  obtain ⟨O, n', h1, h2, h3, h4⟩ := h
  exact ⟨O, n', h1, fun i hi => ⟨(h2 i hi).1, (h2 i hi).2.1, fun e => (h2 i hi).2.2 (hk i e)⟩, h3, h4⟩
/-- What the caller does with its own blocks and new ones. -/
theorem FG.fresh (h : FG w0 wr g room each b cl K) (hK : ∀ i, K i → w0.heap.size ≤ i) (hk : KeepK (fun i => i < wr.heap.size ∧ ¬ K i) wr w') : FG w0 w' g room each b cl (fun i => K i ∨ wr.heap.size ≤ i) := by
  obtain ⟨O, n', h1, h2, h3, h4⟩ := h
  exact ⟨O, n', h1.keep (hk.mono fun i hi => ⟨(h2 i hi).2.1, (h2 i hi).2.2⟩), fun i hi => ⟨(h2 i hi).1, Nat.lt_of_lt_of_le (h2 i hi).2.1 hk.size, fun e => by
    rcases e with e | e
    · exact (h2 i hi).2.2 e
    · have := (h2 i hi).2.1; omega⟩, h3, h4.trans (hk.below fun i hi => ⟨Nat.lt_of_lt_of_le hi h4.size, fun e => by have := hK i e; omega⟩)⟩
theorem fg_turn {O : Nat → Prop} {n n' : Nat} (hO : ∀ i, O i → w0.heap.size ≤ i ∧ i < wr.heap.size ∧ ¬ K i) (hb : Below w0.heap.size w0 wr) (hK : ∀ i, K i → i < wr.heap.size) (hq : QS w' g (n' + 1) room each cl' (After O wr w')) (hk : KeepK (fun i => i < wr.heap.size ∧ ¬ O i) wr w') (hn : n' + 1 ≤ n) :
    FG w0 w' g room each n cl' K ∧ KeepK (fun i => i < wr.heap.size ∧ (i < w0.heap.size ∨ K i)) wr w' := by
  have hsz := hk.size
  have hbs := hb.size
  refine ⟨⟨_, _, hq, fun i hi => ?_, hn, hb.trans (hk.below fun i hi => ⟨Nat.lt_of_lt_of_le hi hb.size, fun e => by have := (hO i e).1; omega⟩)⟩, hk.mono fun i hi => ⟨hi.1, fun e => ?_⟩⟩
  · rcases hi with hi | hi
    · have := hO i hi
      exact ⟨this.1, by omega, this.2.2⟩
    · exact ⟨by omega, hi.2, fun e => by have := hK i e; omega⟩
  · have := hO i e
    rcases hi.2 with h | h
    · omega
    · exact this.2.2 h
theorem FG.put (h : FG w0 wr g room each b cl K) (hK : ∀ i, K i → i < wr.heap.size) (a id : Int) (h0 : 0 ≤ a) (hm : a ≤ 4294967295) (hroom : room ≤ 1024) (heach : each ≤ 1024) (hb : b ≤ 1000000) (hcl : cl.length ≤ 1000000) (hsm : manyC cl ≤ 1000000) (hgl : (getC cl a).length ≤ 1000000) :
    Calls Try.prog 12 #[.pointer (some ⟨g, 0, none⟩), .int .u32 a, .int .i64 id] wr fun e w' => e = .returned (.int .i64 (putQ room each cl a id).2) ∧ FG w0 w' g room each (b + 1) (putQ room each cl a id).1 K ∧ KeepK (fun i => i < wr.heap.size ∧ (i < w0.heap.size ∨ K i)) wr w' := by
  obtain ⟨O, n', h1, h2, h3, h4⟩ := h
  refine (Put_q wr h1 a id h0 hm hroom heach (by omega) hcl hsm hgl).mono ?_
  rintro e w' ⟨rfl, hq, hk⟩
  exact ⟨rfl, fg_turn h2 h4 hK hq hk (by omega)⟩
theorem FG.next (h : FG w0 wr g room each b cl K) (hK : ∀ i, K i → i < wr.heap.size) (hb : b ≤ 1000000) (hcl : cl.length ≤ 100000) (hsm : manyC cl ≤ 100000) :
    Calls Try.prog 15 #[.pointer (some ⟨g, 0, none⟩)] wr fun e w' => e = .returned (.tuple #[.int .u32 (nextQ cl).2.1, .int .i64 (nextQ cl).2.2.1, .bool (nextQ cl).2.2.2]) ∧ FG w0 w' g room each (b + 1) (nextQ cl).1 K ∧ KeepK (fun i => i < wr.heap.size ∧ (i < w0.heap.size ∨ K i)) wr w' := by
  obtain ⟨O, n', h1, h2, h3, h4⟩ := h
  refine (Next_q wr h1 (by omega) hcl hsm).mono ?_
  rintro e w' ⟨rfl, hq, hk⟩
  exact ⟨rfl, fg_turn h2 h4 hK hq hk (by omega)⟩
theorem FG.drop (h : FG w0 wr g room each b cl K) (hK : ∀ i, K i → i < wr.heap.size) (a : Int) (h0 : 0 ≤ a) (hm : a ≤ 4294967295) (hb : b ≤ 1000000) (hcl : cl.length ≤ 1000000) (hsm : manyC cl ≤ 1000000) :
    Calls Try.prog 20 #[.pointer (some ⟨g, 0, none⟩), .int .u32 a] wr fun e w' => e = .returned (.int .i64 ((getC cl a).length : Int)) ∧ FG w0 w' g room each (b + 1) (dropC cl a) K ∧ KeepK (fun i => i < wr.heap.size ∧ (i < w0.heap.size ∨ K i)) wr w' := by
  obtain ⟨O, n', h1, h2, h3, h4⟩ := h
  refine (Drop_q wr h1 a h0 hm (by omega) hcl hsm).mono ?_
  rintro e w' ⟨rfl, hq, hk⟩
  exact ⟨rfl, fg_turn h2 h4 hK hq hk (by omega)⟩
theorem FG.len (h : FG w0 wr g room each b cl K) : Calls Try.prog 13 #[.pointer (some ⟨g, 0, none⟩)] wr fun e w' => e = .returned (.int .i64 (manyC cl : Int)) ∧ wr = w' := by
  obtain ⟨O, n', h1, _⟩ := h
  exact Len_q wr h1
theorem FG.of_ (h : FG w0 wr g room each b cl K) (a : Int) (h0 : 0 ≤ a) (hm : a ≤ 4294967295) : Calls Try.prog 22 #[.pointer (some ⟨g, 0, none⟩), .int .u32 a] wr fun e w' => e = .returned (.int .i64 ((getC cl a).length : Int)) ∧ wr = w' := by
  obtain ⟨O, n', h1, _⟩ := h
  exact Of_q wr h1 a h0 hm
theorem FG.row (h : FG w0 wr g room each b cl K) (hcl : cl.length ≤ 1000000) : Calls Try.prog 14 #[.pointer (some ⟨g, 0, none⟩)] wr (FreshPost cl.length (cl.map fun p => u32V p.1) wr) := by
  obtain ⟨O, n', h1, _⟩ := h
  exact Row_q wr h1 hcl
end
/-- A queue that New gives. -/
theorem fg_new (room each : Int) (w : World) : Calls Try.prog 11 #[.int .i64 room, .int .i64 each] w fun e w' =>
    (∃ (r c g : Nat), room = (r : Int) ∧ each = (c : Int) ∧ 1 ≤ r ∧ r ≤ 1024 ∧ 1 ≤ c ∧ c ≤ 1024 ∧ e = .returned (.tuple #[.pointer (some ⟨g, 0, none⟩), .int .i64 0]) ∧ FG w w' g r c 0 [] (fun _ => False)) ∨
    (¬ (1 ≤ room ∧ room ≤ 1024 ∧ 1 ≤ each ∧ each ≤ 1024) ∧ e = .returned (.tuple #[.pointer none, .int .i64 1]) ∧ Below w.heap.size w w') := by
  refine (New_q room each w).mono ?_
  rintro e w' ⟨hb, h⟩
  rcases h with ⟨r, c, g, h1, h2, h3, h4, h5, h6, h7, _, hq⟩ | ⟨h1, h2⟩
  · exact .inl ⟨r, c, g, h1, h2, h3, h4, h5, h6, h7, _, 0, hq, fun i hi => ⟨hi.1, hi.2, fun e => e⟩, Nat.le_refl _, hb⟩
  · exact .inr ⟨h1, h2, hb⟩

set_option maxRecDepth 100000 in
set_option maxHeartbeats 8000000 in
theorem lives44 (w : World) : Calls Try.prog 10 #[] w fun e w' => e = .returned (.bool true) ∧ Below w.heap.size w w' := by
  have HN1 := Lib.hid (fun W => fg_new 4 2 W)
  have HN2 := Lib.hid (fun W => fg_new 0 1 W)
  go_enter Try.func10, Try.ntmps10
  go_wp2_with (fail)
  with_reducible refine (HN1.out _).mono ?_
  rintro e w1 h
  obtain ⟨g, rfl, h1⟩ : ∃ g, e = .returned (.tuple #[.pointer (some ⟨g, 0, none⟩), .int .i64 0]) ∧ FG w w1 g 4 2 0 [] (fun _ => False) := by
    rcases h with ⟨r, c, g, hr, hc, _, _, _, _, he, hf⟩ | ⟨hno, _⟩
    · have e1 : r = 4 := by omega
      have e2 : c = 2 := by omega
      subst e1 e2
      exact ⟨g, he, hf⟩
    · exact absurd (by decide) hno
  have F1 := Lib.hid h1
  clear h h1
  go_wp2_with (fail)
  with_reducible refine (HN2.out _).mono ?_
  rintro e w2 h
  obtain ⟨rfl, hb⟩ : e = .returned (.tuple #[.pointer none, .int .i64 1]) ∧ Below w1.heap.size w1 w2 := by
    rcases h with ⟨r, c, g, hr, hc, h1, _⟩ | ⟨_, he, hb⟩
    · omega
    · exact ⟨he, hb⟩
  have F2 := Lib.hid ((F1.out.fresh (fun i hi => hi.elim) (KeepK.of_below hb fun i hi => hi.1)).less (K' := fun _ => False) fun i hi => hi.elim)
  clear h hb
  have hp3 := F2.out.put (fun i hi => hi.elim) 7 1 (by decide) (by decide) (by decide) (by decide) (by decide) (by decide) (by decide) (by decide)
  rw [show putQ 4 2 [] 7 1 = (([(7, [1])] : Cl), (0 : Int)) from by decide] at hp3
  have HP3 := Lib.hid hp3
  clear hp3
  go_wp2_with (fail)
  with_reducible refine HP3.out.mono ?_
  rintro e w3 ⟨rfl, hf, _⟩
  have F3 := Lib.hid hf
  clear hf
  have hp4 := F3.out.put (fun i hi => hi.elim) 7 2 (by decide) (by decide) (by decide) (by decide) (by decide) (by decide) (by decide) (by decide)
  rw [show putQ 4 2 [(7, [1])] 7 2 = (([(7, [1, 2])] : Cl), (0 : Int)) from by decide] at hp4
  have HP4 := Lib.hid hp4
  clear hp4
  go_wp2_with (fail)
  with_reducible refine HP4.out.mono ?_
  rintro e w4 ⟨rfl, hf, _⟩
  have F4 := Lib.hid hf
  clear hf
  have hp5 := F4.out.put (fun i hi => hi.elim) 8 1 (by decide) (by decide) (by decide) (by decide) (by decide) (by decide) (by decide) (by decide)
  rw [show putQ 4 2 [(7, [1, 2])] 8 1 = (([(7, [1, 2]), (8, [1])] : Cl), (0 : Int)) from by decide] at hp5
  have HP5 := Lib.hid hp5
  clear hp5
  go_wp2_with (fail)
  with_reducible refine HP5.out.mono ?_
  rintro e w5 ⟨rfl, hf, _⟩
  have F5 := Lib.hid hf
  clear hf
  have hp6 := F5.out.put (fun i hi => hi.elim) 7 3 (by decide) (by decide) (by decide) (by decide) (by decide) (by decide) (by decide) (by decide)
  rw [show putQ 4 2 [(7, [1, 2]), (8, [1])] 7 3 = (([(7, [1, 2]), (8, [1])] : Cl), (11 : Int)) from by decide] at hp6
  have HP6 := Lib.hid hp6
  clear hp6
  go_wp2_with (fail)
  with_reducible refine HP6.out.mono ?_
  rintro e w6 ⟨rfl, hf, _⟩
  have F6 := Lib.hid hf
  clear hf
  have hp7 := F6.out.put (fun i hi => hi.elim) 8 1 (by decide) (by decide) (by decide) (by decide) (by decide) (by decide) (by decide) (by decide)
  rw [show putQ 4 2 [(7, [1, 2]), (8, [1])] 8 1 = (([(7, [1, 2]), (8, [1])] : Cl), (4 : Int)) from by decide] at hp7
  have HP7 := Lib.hid hp7
  clear hp7
  go_wp2_with (fail)
  with_reducible refine HP7.out.mono ?_
  rintro e w7 ⟨rfl, hf, _⟩
  have F7 := Lib.hid hf
  clear hf
  have hp8 := F7.out.next (fun i hi => hi.elim) (by decide) (by decide) (by decide)
  rw [show nextQ [(7, [1, 2]), (8, [1])] = (([(8, [1]), (7, [2])] : Cl), (7 : Int), (1 : Int), true) from by decide] at hp8
  have HP8 := Lib.hid hp8
  clear hp8
  go_wp2_with (fail)
  with_reducible refine HP8.out.mono ?_
  rintro e w8 ⟨rfl, hf, _⟩
  have F8 := Lib.hid hf
  clear hf
  have hp9 := F8.out.next (fun i hi => hi.elim) (by decide) (by decide) (by decide)
  rw [show nextQ [(8, [1]), (7, [2])] = (([(7, [2])] : Cl), (8 : Int), (1 : Int), true) from by decide] at hp9
  have HP9 := Lib.hid hp9
  clear hp9
  go_wp2_with (fail)
  with_reducible refine HP9.out.mono ?_
  rintro e w9 ⟨rfl, hf, _⟩
  have F9 := Lib.hid hf
  clear hf
  have HL := Lib.hid F9.out.len
  go_wp2_with (fail)
  with_reducible refine HL.out.mono ?_
  rintro e wl ⟨rfl, rfl⟩
  have hp10 := F9.out.drop (fun i hi => hi.elim) 7 (by decide) (by decide) (by decide) (by decide) (by decide)
  rw [show dropC [(7, [2])] 7 = ([] : Cl) from by decide] at hp10
  have HP10 := Lib.hid hp10
  clear hp10
  go_wp2_with (fail)
  with_reducible refine HP10.out.mono ?_
  rintro e w10 ⟨rfl, hf, _⟩
  have F10 := Lib.hid hf
  clear hf
  have hp11 := F10.out.next (fun i hi => hi.elim) (by decide) (by decide) (by decide)
  rw [show nextQ [] = (([] : Cl), (0 : Int), (0 : Int), false) from by decide] at hp11
  have HP11 := Lib.hid hp11
  clear hp11
  go_wp2_with (fail)
  with_reducible refine HP11.out.mono ?_
  rintro e w11 ⟨rfl, hf, _⟩
  have F11 := Lib.hid hf
  clear hf
  have HR := Lib.hid (F11.out.row (by decide))
  go_wp2_with (fail)
  with_reducible refine HR.out.mono ?_
  rintro e wz ⟨v, rfl, hs, _, hb⟩
  obtain ⟨A, c, rfl, _, _⟩ := hs.shape
  have BZ := Lib.hid (F11.out.below.trans (hb.mono F11.out.below.size))
  clear hs hb
  go_wp2_with (fail)
  go_ret
  exact ⟨rfl, BZ.out⟩
end Go.Proofs.Ytkdfbmbccopchaa
