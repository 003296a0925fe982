/- The wheel's small methods, over what it holds. Conditions: none. -/
import Derived.Test.YtkdijafnakpfhaaWheelC
namespace Go.Proofs.Ytkdijafnakpfhaa
open Go.RowKit Go.Lib

/-- The wheel at block g holds the things v. -/
def WV (w : World) (g mb : Nat) (A : Option Addr) (N : Nat) (v : List Th) : Prop :=
  ∃ c xs f, HS w g mb A c xs f N ∧ HeapL xs ∧ Rep xs v ∧ xs.length ≤ N
theorem WV.below {w w' : World} {g mb N : Nat} {A : Option Addr} {v : List Th} (h : WV w g mb A N v) (hb : Below w.heap.size w w') : WV w' g mb A N v := by
  obtain ⟨c, xs, f, h1, h2⟩ := h
  exact ⟨c, xs, f, h1.below hb, h2⟩
theorem WV.lt {w : World} {g mb N : Nat} {A : Option Addr} {v : List Th} (h : WV w g mb A N v) : g < w.heap.size ∧ mb < w.heap.size ∧ ∀ q, A = some q → q.block < w.heap.size ∧ q.block ≠ g ∧ q.block ≠ mb := by
  obtain ⟨c, xs, f, h1, h2⟩ := h
  obtain ⟨F, m1, _⟩ := h1.mp
  refine ⟨h1.bx.lt, m1.lt, fun q hq => ?_⟩
  have e : (Value.slice A xs.length c).ownBlock = some q.block := by rw [own_map, hq]; rfl
  exact ⟨h1.it.lt _ e, h1.ne.2 _ e⟩
theorem WV.len {w : World} {g mb N : Nat} {A : Option Addr} {v : List Th} (h : WV w g mb A N v) : v.length ≤ N ∧ v.length ≤ 1000 := by
  obtain ⟨c, xs, f, h1, h2, h3, h4⟩ := h
  have := h3.len
  have := h1.nb.2
  omega
theorem WV.ok {w : World} {g mb N : Nat} {A : Option Addr} {v : List Th} (h : WV w g mb A N v) : ∀ x, x ∈ v → x.ok := by
  obtain ⟨c, xs, f, h1, h2, h3, h4⟩ := h
  exact fun x hx => h1.ok x ((h3.mem x).2 hx)
theorem WV.nodup {w : World} {g mb N : Nat} {A : Option Addr} {v : List Th} (h : WV w g mb A N v) : (v.map Th.id).Nodup := by
  obtain ⟨c, xs, f, h1, h2, h3, h4⟩ := h
  exact nodup_of h3 h1.pl
theorem WV.mono {w : World} {g mb N M : Nat} {A : Option Addr} {v : List Th} (h : WV w g mb A N v) (hm : N ≤ M) (hM : M ≤ 1000) : WV w g mb A M v := by
  obtain ⟨c, xs, f, h1, h2, h3, h4⟩ := h
  obtain ⟨F, m1, m2⟩ := h1.mp
  exact ⟨c, xs, f, ⟨h1.bx, h1.it, ⟨F, m1.mono hm, m2⟩, h1.ne, h1.pl, h1.ok, ⟨hM, h1.nb.2⟩⟩, h2, h3, by omega⟩

set_option maxRecDepth 100000 in
set_option maxHeartbeats 16000000 in
theorem new_any35 (w : World) : Calls Try.prog 6 #[] w fun e w' => ∃ g mb, e = .returned (.pointer (some ⟨g, 0, none⟩)) ∧ WV w' g mb none 0 [] ∧ Below w.heap.size w w' ∧ w.heap.size ≤ g ∧ w.heap.size ≤ mb := by
  have hmm : ∀ W : World, (Instr.makeMap 52 none).run Try.prog W = .ok (.map (some W.heap.size)) (W.alloc (.map #[] 0)) := fun W => rfl
  go_enter Try.func6, Try.ntmps6
  go_wp2_with (fail)
  go_ret
  have hB : Blk ((w.alloc (.map #[] 0)).alloc (.cells #[.func (.func 17) #[] #[], .func (.func 18) #[] #[], .slice none 0 0, .map (some w.heap.size)] 57)) (w.heap.size + 1) 57 #[.func (.func 17) #[] #[], .func (.func 18) #[] #[], .slice none 0 0, .map (some w.heap.size)] := by
    have h1 := Blk.new (w.alloc (.map #[] 0)) 57 #[.func (.func 17) #[] #[], .func (.func 18) #[] #[], .slice none 0 0, .map (some w.heap.size)]
    rw [World.size_alloc] at h1
    exact h1
  refine ⟨_, _, rfl, ⟨0, [], fun _ => none, ⟨hB, Sl.nil _ _, ⟨_, (MapV.made w _ _).alloc _, fun k => rfl⟩, ⟨by simp, fun q hq => by simp [Value.ownBlock] at hq⟩, PlOk.nil_, fun x hx => absurd hx (by simp), ⟨by omega, by simp⟩⟩, fun j _ hj => absurd hj (Nat.not_lt_zero _), Rep.nil_, Nat.le_refl _⟩, ?_, ?_, Nat.le_refl _⟩
  · exact (((Below.refl _ _).alloc (Nat.le_refl _) _).alloc (by simp) _)
  · simp

set_option maxRecDepth 100000 in
set_option maxHeartbeats 16000000 in
theorem made_any35 {w : World} {g mb : Nat} {a b c : Value} (h : Blk w g 57 #[a, b, c, .map (some mb)]) : Calls Try.prog 19 #[.pointer (some ⟨g, 0, none⟩)] w fun e w' => e = .returned (.bool true) ∧ Below w.heap.size w w' := by
  have g3 := h.cell 3
  have hne : ∀ W : World, (binOp .neq 52 (.map (some mb)) (.map none)).run Try.prog W = .ok (.bool true) W := fun W => by rfl
  go_enter Try.func19, Try.ntmps19
  go_wp2_with (fail)
  go_ret
  exact ⟨rfl, Below.refl _ _⟩

set_option maxRecDepth 100000 in
set_option maxHeartbeats 16000000 in
theorem remove_any {w : World} {g mb N : Nat} {A : Option Addr} {v : List Th} (h : WV w g mb A N v) (k : Int) (hk : -9223372036854775808 ≤ k ∧ k ≤ 9223372036854775807) :
    Calls Try.prog 21 #[.pointer (some ⟨g, 0, none⟩), .int .i64 k] w fun e w' => e = .returned (.bool (hasId v k)) ∧ WV w' g mb A N (dropV v k) ∧ KeepH g mb A w w' := by
  obtain ⟨c, xs, f, h1, h2, h3, h4⟩ := h
  have H := Lib.hid (And.intro h1 (And.intro h2 (And.intro h3 h4)))
  have g3 := h1.bx.cell 3
  have hlk := look35 h1.mp k hk
  have hhas := has_place h3 h1.pl k
  clear h1 h2 h3 h4
  cases hfx : f k with
  | none =>
    rw [hfx] at hlk hhas
    simp only [Option.getD_none, Option.isSome_none] at hlk hhas
    rw [hhas]
    have HH := Lib.hid (And.intro hhas hfx)
    clear hhas hfx
    go_enter Try.func21, Try.ntmps21
    go_wp2_with (fail)
    go_ret
    have hd : dropV v k = v := by
      unfold dropV
      rw [List.filter_eq_self]
      intro x hx
      cases hxk : x.id == k with
      | false => rfl
      | true => exact absurd ((hasId_iff v k).2 ⟨x, hx, by simpa using hxk⟩) (by rw [HH.out.1]; simp)
    refine ⟨rfl, ?_, KeepH.refl _ _ _ _⟩
    rw [hd]
    exact ⟨c, xs, f, H.out⟩
  | some i =>
    rw [hfx] at hlk hhas
    simp only [Option.getD_some, Option.isSome_some] at hlk hhas
    rw [hhas]
    have hi := H.out.1.pl.2 k i hfx
    have HH := Lib.hid (And.intro hhas (And.intro hfx hi))
    have HC := Lib.hid (cut_any H.out.1 H.out.2.1 i hi.1)
    clear hhas hfx hi
    go_enter Try.func21, Try.ntmps21
    go_wp2_with (go_at_call 23; refine HC.out.mono ?_; rintro e w1 ⟨rfl, k1⟩; have HW := Lib.hid k1; clear k1)
    go_ret
    obtain ⟨c', ys, f', j1, j2, j3, j4, j5⟩ := HW.out
    refine ⟨rfl, ⟨c', ys, f', j1, j2, ?_, by have := H.out.2.2.2; omega⟩, j5⟩
    have := H.out.2.2.1.cut H.out.1.pl HH.out.2.2.1 j3 j4
    rw [HH.out.2.2.2] at this
    exact this

set_option maxRecDepth 100000 in
set_option maxHeartbeats 16000000 in
theorem drop_any35 {w : World} {g mb N : Nat} {A : Option Addr} {v : List Th} (h : WV w g mb A N v) (k : Int) (hk : -9223372036854775808 ≤ k ∧ k ≤ 9223372036854775807) :
    Calls Try.prog 10 #[.pointer (some ⟨g, 0, none⟩), .int .i64 k] w fun e w' => e = .returned (.bool (hasId v k)) ∧ WV w' g mb A N (dropV v k) ∧ KeepH g mb A w w' := by
  have H := Lib.hid h
  obtain ⟨c, xs, f, h1, _⟩ := h
  have HM := Lib.hid (made_any35 h1.bx)
  clear h1
  have HR := Lib.hid (fun w' (hb : Below w.heap.size w w') => remove_any (H.out.below hb) k hk)
  go_enter Try.func10, Try.ntmps10
  go_wp2_with (first
    | (go_at_call 19; refine HM.out.mono ?_; rintro e w1 ⟨rfl, hb⟩; have HB := Lib.hid hb; clear hb)
    | (go_at_call 21; refine (HR.out _ HB.out).mono ?_; rintro e w2 ⟨rfl, hk⟩; have HK := Lib.hid hk; clear hk))
  go_ret
  exact ⟨rfl, HK.out.1, (KeepK.of_below HB.out fun _ hb => hb.1).trans (KeepK.mono HK.out.2 fun b hb => ⟨Nat.lt_of_lt_of_le hb.1 HB.out.size, hb.2⟩)⟩

set_option maxRecDepth 100000 in
set_option maxHeartbeats 16000000 in
theorem add_any35 {w : World} {g mb N : Nat} {A : Option Addr} {v : List Th} (h : WV w g mb A N v) (x : Th) (hx : x.ok) (hN : N + 1 ≤ 1000) :
    Calls Try.prog 8 #[.pointer (some ⟨g, 0, none⟩), .int .i64 x.id, .int .i64 x.t] w fun e w' => e = .returned (.bool (!hasId v x.id)) ∧ ∃ A', WV w' g mb A' (N + 1) (addV v x.id x.t) ∧ KeepH g mb A w w' ∧ (A' = A ∨ ∀ q, A' = some q → w.heap.size ≤ q.block) := by
  have H := Lib.hid h
  obtain ⟨c, xs, f, h1, h2, h3, h4⟩ := h
  have HM := Lib.hid (made_any35 h1.bx)
  have HH := Lib.hid (And.intro h1 (And.intro h2 (And.intro h3 h4)))
  have HR := Lib.hid (fun w' (hb : Below w.heap.size w w') => show Calls Try.prog 20 #[.pointer (some ⟨g, 0, none⟩), .agg #[.int .i64 x.id, .int .i64 x.t]] w' (PushP g mb A xs N x (f x.id).isSome w') from push_any (h1.below hb) h2 x hx hN (by omega))
  clear h1 h2 h3 h4
  go_enter Try.func8, Try.ntmps8
  go_wp2_with (first
    | (go_at_call 19; refine HM.out.mono ?_; rintro e w1 ⟨rfl, hb⟩; have HB := Lib.hid hb; clear hb)
    | (go_at_call 20; refine (HR.out _ HB.out).mono ?_; rintro e w2 (⟨k1, rfl, k2⟩ | ⟨k1, rfl, k2⟩) <;> (have HK := Lib.hid (And.intro k1 k2); clear k1 k2)))
  · go_ret
    have hz := HB.out.size
    have hb := HB.out.trans (HK.out.2.mono hz)
    have hp := (has_place HH.out.2.2.1 HH.out.1.pl x.id).trans HK.out.1
    refine ⟨by rw [hp]; rfl, A, ?_, KeepK.of_below hb fun _ hb => hb.1, .inl rfl⟩
    have ea : addV v x.id x.t = v := by unfold addV; rw [if_pos hp]
    rw [ea]
    exact (H.out.below hb).mono (by omega) hN
  · go_ret
    obtain ⟨k1, A', c', ys, f', j1, j2, j3, j4, j5, j6⟩ := HK.out
    have hz := HB.out.size
    have hp := (has_place HH.out.2.2.1 HH.out.1.pl x.id).trans k1
    refine ⟨by rw [hp]; rfl, A', ?_, (KeepK.of_below HB.out fun _ hb => hb.1).trans (KeepK.mono j5 fun b hb => ⟨Nat.lt_of_lt_of_le hb.1 hz, hb.2⟩), ?_⟩
    · have ea : addV v x.id x.t = v ++ [x] := by unfold addV; rw [if_neg (by rw [hp]; simp)]
      rw [ea]
      exact ⟨c', ys, f', j1, j2, (HH.out.2.2.1.push hp).congr j4 (by rw [j3]; simp), by have := HH.out.2.2.2; omega⟩
    · rcases j6 with h | h
      · exact .inl h
      · exact .inr fun q hq => Nat.le_trans hz (h q hq)

set_option maxRecDepth 100000 in
set_option maxHeartbeats 16000000 in
theorem len_any35 {w : World} {g mb N : Nat} {A : Option Addr} {v : List Th} (h : WV w g mb A N v) :
    Calls Try.prog 16 #[.pointer (some ⟨g, 0, none⟩)] w fun e w' => e = .returned (.int .i64 (v.length : Int)) ∧ Below w.heap.size w w' := by
  obtain ⟨c, xs, f, h1, _, h3, _⟩ := h
  have HM := Lib.hid (made_any35 h1.bx)
  rw [← h3.len]
  have HX := Lib.hid h1
  clear h1 h3
  go_enter Try.func16, Try.ntmps16
  go_wp2_with (go_at_call 19; refine HM.out.mono ?_; rintro e w1 ⟨rfl, hb⟩; have g2 := (HX.out.bx.below hb HX.out.bx.lt).cell 2; have HB := Lib.hid hb; clear hb)
  go_ret
  exact ⟨rfl, HB.out⟩

set_option maxRecDepth 100000 in
set_option maxHeartbeats 16000000 in
theorem next_any35 {w : World} {g mb N : Nat} {A : Option Addr} {v : List Th} (h : WV w g mb A N v) :
    Calls Try.prog 14 #[.pointer (some ⟨g, 0, none⟩)] w fun e w' => e = .returned (.tuple #[.int .i64 ((minV v).elim 0 Th.t), .bool (minV v).isSome]) ∧ Below w.heap.size w w' := by
  obtain ⟨c, xs, f, h1, h2, h3, _⟩ := h
  have HM := Lib.hid (made_any35 h1.bx)
  have HX := Lib.hid (And.intro h1 (And.intro h2 h3))
  clear h1 h2 h3
  by_cases hp : xs.length = 0
  · have hv : minV v = none := minV_none.2 (List.eq_nil_of_length_eq_zero (by rw [← HX.out.2.2.len]; exact hp))
    rw [hv]
    dsimp only [Option.elim, Option.isSome]
    clear hv
    go_enter Try.func14, Try.ntmps14
    go_wp2_with (go_at_call 19; refine HM.out.mono ?_; rintro e w1 ⟨rfl, hb⟩; have g2 := (HX.out.1.bx.below hb HX.out.1.bx.lt).cell 2; rw [hp] at g2; have HB := Lib.hid hb; clear hb)
    go_ret2
    exact ⟨rfl, HB.out⟩
  · have hv : minV v = some (ath xs 0) := minV_heap HX.out.2.2 HX.out.2.1 (by omega)
    rw [hv]
    dsimp only [Option.elim, Option.isSome]
    clear hv
    obtain ⟨x0, hx0⟩ : ∃ x, ath xs 0 = x := ⟨_, rfl⟩
    rw [hx0]
    obtain ⟨q, rfl, hq, hqg, hqm, ci0, ci1, _, _⟩ := HX.out.1.at_ (i := 0) (by omega)
    rw [hx0] at ci1
    have HC := Lib.hid (And.intro ci1 hq)
    clear hqg hqm
    have q1 : ((xs.length : Int) == 0) = false := by rw [beq_eq_false_iff_ne]; omega
    have q2 : (0 : Int) < (xs.length : Int) := by omega
    clear ci0 ci1
    go_enter Try.func14, Try.ntmps14
    go_wp2_with (go_at_call 19; refine HM.out.mono ?_; rintro e w1 ⟨rfl, hb⟩; have g2 := (HX.out.1.bx.below hb HX.out.1.bx.lt).cell 2; have c1 : w1.cell? ⟨q, 1, none⟩ = some (.int .i64 x0.t) := (hb.cell (p := ⟨q, 1, none⟩) HC.out.2).trans (by simpa using HC.out.1); have HB := Lib.hid hb; clear hb)
    go_ret2
    exact ⟨rfl, HB.out⟩
end Go.Proofs.Ytkdijafnakpfhaa
