/- The walks of slices.Equal at options, edns.Same. Conditions: none. -/
import Derived.Test.YthjkdpphbipgfaaEdns
import Derived.Laws.StructEq
import Derived.WalkSpells
namespace Go.Proofs.Ythjkdpphbipgfaa
open Go.RowKit Go.Shelf Go.Lib

theorem OTab.cells {w : World} {A : Option Addr} {xs : List Opt} (h : OTab w A xs) {k : Nat} {e : Opt} (he : xs[k]? = some e) : ∃ b off, A = some ⟨b, off, none⟩ ∧ b < w.heap.size ∧
    w.cell? ⟨b, off + k * 2, none⟩ = some (.int .u16 e.c) ∧ w.cell? ⟨b, off + k * 2 + 1, none⟩ = some (.string e.d) := by
  have hk := (List.getElem?_eq_some_iff.1 he).1
  obtain ⟨b, off, hA, hb, hc⟩ := h.2 (by omega)
  exact ⟨b, off, hA, hb, hc k e he 0 _ rfl, hc k e he 1 _ rfl⟩
theorem OTab.nil_ (w : World) (A : Option Addr) : OTab w A [] := ⟨fun _ h => (List.not_mem_nil h).elim, fun h => absurd h (Nat.lt_irrefl 0)⟩
theorem neq_oo (e : Opt) (w : World) : (binOp .neq 92 (.agg #[.int .u16 e.c, .string e.d]) (.agg #[.int .u16 e.c, .string e.d])).run Try.prog w = .ok (.bool false) w := by
  have hS : Try.prog.underlying 92 = some (.struct (Try.prog.fieldsOf 92)) := by kernel_rfl
  have hp : Try.prog.stoodInHeld 92 = false := by kernel_rfl
  have u1 := Try.underlying9
  have u3 := Try.underlying22
  have a1 := Try.isAgg9
  have a3 := Try.isAgg22
  have z1 := Try.sizeOf9
  have z3 := Try.sizeOf22
  rw [run_neq_struct, show (10000 : Nat) = 9999 + 1 from rfl, run_equalIn_agg w 9999 _ _ _ hS hp]
  simp only [Program.fieldsOf, Try.underlying92]
  go_simp

set_option maxHeartbeats 2000000 in
set_option maxRecDepth 100000 in
theorem equalO_same (xs : List Opt) (A B : Option Addr) (c d : Nat) (w : World) (hA : OTab w A xs) (hB : OTab w B xs) (hl : xs.length ≤ 1000000) :
    Calls Try.prog 64 #[.slice A xs.length c, .slice B xs.length d] w fun e w' => e = .returned (.bool true) ∧ Below w.heap.size w w' := by
  have hg : Try.prog.eqGuardType Try.prog.depth 92 = false := by kernel_rfl
  have hlI : (xs.length : Int) ≤ 1000000 := by omega
  have HA := Lib.hid hA
  have HB := Lib.hid hB
  clear hA hB hl
  have hne := neq_oo
  go_enter Try.func64, Try.ntmps64
  go_wp2_with (fail)
  go_loopg [5, 13] (xs.length + 1) (fun gg v5 v13 wr => ∃ k q : Nat, v13 = .int .i64 (k : Int) ∧ k ≤ xs.length ∧ Aside (gg + k = xs.length + 1) ∧ wr = w.drewN q)
  case atStart => exact ⟨0, 0, rfl, by omega, rfl, rfl⟩
  case round =>
    obtain ⟨k, q, rfl, hk, hg2, rfl⟩ := hrel
    by_cases hlt : k < xs.length
    · have hltI : (k : Int) < (xs.length : Int) := by omega
      obtain ⟨e, he⟩ : ∃ e, xs[k]? = some e := ⟨_, List.getElem?_eq_getElem hlt⟩
      obtain ⟨b, off, rfl, _, d0, d1⟩ := HA.out.cells he
      obtain ⟨b', off', rfl, _, f0, f1⟩ := HB.out.cells he
      clear he hlt
      go_wp2_with (fail)
      go_quiet (fail)
      go_wp2_with (fail)
      go_roundg (xs.length - k)
      case measure => have := hg2.out; omega
      case rel => exact ⟨k + 1, q + nq, by go_num, by omega, (show _ = _ by omega), by first | rfl | rw [World.drewN_drewN]⟩
    · obtain rfl : k = xs.length := by omega
      clear hlt
      go_wp2_with (fail)
      go_ret
      exact ⟨rfl, below_drewN (Below.refl _ _) q⟩
theorem equalO_lens (A B : Option Addr) (m n c d : Nat) (w : World) (h : m ≠ n) :
    Calls Try.prog 64 #[.slice A m c, .slice B n d] w fun e w' => e = .returned (.bool false) ∧ Below w.heap.size w w' := by
  have hI : ¬ (m : Int) = (n : Int) := by omega
  have hI2 : ¬ m = n := h
  clear h
  go_enter Try.func64, Try.ntmps64
  go_wp2_with (fail)
  go_ret
  exact ⟨rfl, Below.refl _ _⟩

set_option maxRecDepth 100000 in
set_option maxHeartbeats 2000000 in
theorem same_yes (th : Bool) (sz hi ve fl : Int) (xs : List Opt) (A B : Option Addr) (c d : Nat) (w : World) (hA : OTab w A xs) (hB : OTab w B xs) (hl : xs.length ≤ 1000000) :
    Calls Try.prog 28 #[ednsV th sz hi ve fl A xs.length c, ednsV th sz hi ve fl B xs.length d] w fun e w' => e = .returned (.bool true) ∧ Below w.heap.size w w' := by
  have hb2 : Below w.heap.size w ((w.alloc (.cells #[.bool th, .int .u16 sz, .int .u8 hi, .int .u8 ve, .int .u16 fl, .slice A xs.length c] 45)).alloc (.cells #[.bool th, .int .u16 sz, .int .u8 hi, .int .u8 ve, .int .u16 fl, .slice B xs.length d] 45)) := ((Below.refl _ _).alloc (Nat.le_refl _) _).alloc (by simp) _
  have HE := Lib.hid (equalO_same xs A B c d _ (hA.below hb2) (hB.below hb2) hl)
  have HB := Lib.hid hb2
  clear hA hB hl hb2
  unfold ednsV
  go_enter Try.func28, Try.ntmps28
  cases th
  all_goals
    go_wp2_with (fail)
    with_reducible refine HE.out.mono ?_
    rintro e w' ⟨rfl, hb⟩
    have H := Lib.hid hb
    clear hb
    go_wp2_with (fail)
    go_ret
    exact ⟨rfl, HB.out.trans (H.out.mono HB.out.size)⟩
set_option maxRecDepth 100000 in
set_option maxHeartbeats 2000000 in
theorem same_zero (sz hi ve fl : Int) (A : Option Addr) (n c : Nat) (w : World) :
    Calls Try.prog 28 #[ednsV false sz hi ve fl A n c, ednsV false 0 0 0 0 none 0 0] w fun e w' => e = .returned (.bool (sz == 0 && hi == 0 && ve == 0 && fl == 0 && n == 0)) ∧ Below w.heap.size w w' := by
  have hb2 : Below w.heap.size w ((w.alloc (.cells #[.bool false, .int .u16 sz, .int .u8 hi, .int .u8 ve, .int .u16 fl, .slice A n c] 45)).alloc (.cells #[.bool false, .int .u16 0, .int .u8 0, .int .u8 0, .int .u16 0, .slice none 0 0] 45)) := ((Below.refl _ _).alloc (Nat.le_refl _) _).alloc (by simp) _
  have HE : n ≠ 0 → _ := fun h => equalO_lens A none n 0 c 0 ((w.alloc (.cells #[.bool false, .int .u16 sz, .int .u8 hi, .int .u8 ve, .int .u16 fl, .slice A n c] 45)).alloc (.cells #[.bool false, .int .u16 0, .int .u8 0, .int .u8 0, .int .u16 0, .slice none 0 0] 45)) h
  have HB := Lib.hid hb2
  have HF := Lib.hid HE
  have HO := Lib.hid (equalO_same [] A none c 0 ((w.alloc (.cells #[.bool false, .int .u16 0, .int .u8 0, .int .u8 0, .int .u16 0, .slice A 0 c] 45)).alloc (.cells #[.bool false, .int .u16 0, .int .u8 0, .int .u8 0, .int .u16 0, .slice none 0 0] 45)) (OTab.nil_ _ _) (OTab.nil_ _ _) (Nat.zero_le _))
  clear hb2 HE
  unfold ednsV
  go_enter Try.func28, Try.ntmps28
  by_cases e1 : sz = 0
  case' neg => go_wp2_with (fail); go_ret; exact ⟨by simp [e1], HB.out⟩
  subst e1
  by_cases e2 : hi = 0
  case' neg => go_wp2_with (fail); go_ret; exact ⟨by simp [e2], HB.out⟩
  subst e2
  by_cases e3 : ve = 0
  case' neg => go_wp2_with (fail); go_ret; exact ⟨by simp [e3], HB.out⟩
  subst e3
  by_cases e4 : fl = 0
  case' neg => go_wp2_with (fail); go_ret; exact ⟨by simp [e4], HB.out⟩
  subst e4
  by_cases e5 : n = 0
  · subst e5
    go_wp2_with (fail)
    refine HO.out.mono ?_
    rintro e w' ⟨rfl, hb⟩
    have H := Lib.hid hb
    clear hb
    go_wp2_with (fail)
    go_ret
    exact ⟨rfl, HB.out.trans (H.out.mono HB.out.size)⟩
  · have HE := HF.out e5
    have H5 := Lib.hid e5
    clear e5
    go_wp2_with (fail)
    with_reducible refine HE.mono ?_
    rintro e w' ⟨rfl, hb⟩
    have H := Lib.hid hb
    clear hb
    go_wp2_with (fail)
    go_ret
    exact ⟨by simp [H5.out], HB.out.trans (H.out.mono HB.out.size)⟩
end Go.Proofs.Ythjkdpphbipgfaa
