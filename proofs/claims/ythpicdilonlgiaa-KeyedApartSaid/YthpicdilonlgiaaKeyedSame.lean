/- The walk of the reference's Same at two tables that read alike; Small. -/
import Derived.Test.YthpicdilonlgiaaKeyedPutR
import Derived.Laws.StructEq
namespace Go.Proofs.Ythpicdilonlgiaa
open Go.RowKit Go.Lib

theorem neq_sum (e : Entry) (w : World) : (binOp .neq 62 (.agg #[.string e.key, .string e.text, .int .u64 e.n]) (.agg #[.string e.key, .string e.text, .int .u64 e.n])).run Try.prog w = .ok (.bool false) w := by
  have hS : Try.prog.underlying 62 = some (.struct (Try.prog.fieldsOf 62)) := by kernel_rfl
  have hp : Try.prog.stoodInHeld 62 = false := by kernel_rfl
  have u1 := Try.underlying9
  have u2 := Try.underlying35
  have a1 := Try.isAgg9
  have a2 := Try.isAgg35
  have z1 := Try.sizeOf9
  have z2 := Try.sizeOf35
  rw [run_neq_struct, show (10000 : Nat) = 9999 + 1 from rfl, run_equalIn_agg w 9999 _ _ _ hS hp]
  simp only [Program.fieldsOf, Try.underlying62]
  go_simp

set_option maxHeartbeats 2000000 in
set_option maxRecDepth 100000 in
theorem same_any (i : Bool) (xs : List Entry) (A B : Option Addr) (c d : Nat) (w : World) (hA : Tab w A xs) (hB : Tab w B xs) (hbig : xs.length ≤ 9223372036854775807) :
    Calls Try.prog 58 #[.agg #[.bool i, .slice A xs.length c], .agg #[.bool i, .slice B xs.length d]] w fun e w' => e = .returned (.bool true) ∧ Below w.heap.size w w' := by
  have hg : Try.prog.eqGuardType Try.prog.depth 62 = false := by kernel_rfl
  have hne := neq_sum
  have hb2 : Below w.heap.size w ((w.alloc (.cells #[.bool i, .slice A xs.length c] 50)).alloc (.cells #[.bool i, .slice B xs.length d] 50)) := ((Below.refl _ _).alloc (Nat.le_refl _) _).alloc (by simp) _
  have b1 : Blk ((w.alloc (.cells #[.bool i, .slice A xs.length c] 50)).alloc (.cells #[.bool i, .slice B xs.length d] 50)) w.heap.size 50 #[.bool i, .slice A xs.length c] := (Blk.new w _ _).alloc _
  have b2 : Blk ((w.alloc (.cells #[.bool i, .slice A xs.length c] 50)).alloc (.cells #[.bool i, .slice B xs.length d] 50)) (w.heap.size + 1) 50 #[.bool i, .slice B xs.length d] := by
    have := Blk.new (w.alloc (.cells #[.bool i, .slice A xs.length c] 50)) 50 #[.bool i, .slice B xs.length d]
    rw [World.size_alloc] at this
    exact this
  have HA := Lib.hid hA
  have HB := Lib.hid hB
  have HB2 := Lib.hid hb2
  have H1 := Lib.hid b1
  have H2 := Lib.hid b2
  clear hb2 hA hB b1 b2
  go_enter Try.func58, Try.ntmps58
  go_wp2_with (fail)
  generalize hW : (w.alloc (.cells #[.bool i, .slice A xs.length c] 50)).alloc (.cells #[.bool i, .slice B xs.length d] 50) = W at HB2 H1 H2 ⊢
  clear hW
  go_loopg [23] xs.length (fun gg s8 wr => ∃ kk q : Nat, kk ≤ xs.length ∧ xs.length - kk ≤ gg ∧ s8 = .int .i64 kk ∧ wr = W.drewN q)
  case atStart => exact ⟨0, 0, Nat.zero_le _, by omega, rfl, rfl⟩
  case round =>
    obtain ⟨kk, q, hkk, hg, rfl, rfl⟩ := hrel
    by_cases hlt : kk < xs.length
    · have hltz : (kk : Int) < (xs.length : Int) := by omega
      obtain ⟨b, off, rfl, hbs, hcc⟩ := (HA.out.below HB2.out).2 (by omega)
      obtain ⟨b', off', rfl, hbs', hcc'⟩ := (HB.out.below HB2.out).2 (by omega)
      obtain ⟨e, he⟩ : ∃ e, xs[kk]? = some e := ⟨_, List.getElem?_eq_getElem hlt⟩
      have c0 : W.cell? ⟨b, off + kk * 3, none⟩ = some (.string e.key) := hcc kk e he 0 _ rfl
      have c1 : W.cell? ⟨b, off + kk * 3 + 1, none⟩ = some (.string e.text) := hcc kk e he 1 _ rfl
      have c2 : W.cell? ⟨b, off + kk * 3 + 2, none⟩ = some (.int .u64 e.n) := hcc kk e he 2 _ rfl
      have c0' : W.cell? ⟨b', off' + kk * 3, none⟩ = some (.string e.key) := hcc' kk e he 0 _ rfl
      have c1' : W.cell? ⟨b', off' + kk * 3 + 1, none⟩ = some (.string e.text) := hcc' kk e he 1 _ rfl
      have c2' : W.cell? ⟨b', off' + kk * 3 + 2, none⟩ = some (.int .u64 e.n) := hcc' kk e he 2 _ rfl
      have d1 : W.cell? ⟨w.heap.size, 1, none⟩ = some (.slice (some ⟨b, off, none⟩) xs.length c) := H1.out.cell 1
      have d2 : W.cell? ⟨w.heap.size + 1, 1, none⟩ = some (.slice (some ⟨b', off', none⟩) xs.length d) := H2.out.cell 1
      clear hcc hcc' he
      go_wp2_with (fail)
      go_quiet (fail)
      go_wp2_with (fail)
      go_roundg (xs.length - (kk + 1))
      case measure => omega
      case rel => exact ⟨kk + 1, q + nq, by omega, by omega, by go_num, by first | rfl | rw [World.drewN_drewN]⟩
    · obtain rfl : kk = xs.length := by omega
      clear hlt
      go_wp2_with (fail)
      go_ret
      exact ⟨rfl, below_drewN HB2.out q⟩

theorem small_any (i : Bool) (xs : List Entry) (A : Option Addr) (c : Nat) (w : World) (hbig : xs.length ≤ 9223372036854775807) :
    Calls Try.prog 46 #[.agg #[.bool i, .slice A xs.length c]] w fun e w' => e = .returned (.int .i64 (if 60 < xs.length then 0 else 1)) ∧ Below w.heap.size w w' := by
  by_cases h : 60 < xs.length
  · have hi : (60 : Int) < (xs.length : Int) := by omega
    rw [if_pos h]
    clear h
    go_enter Try.func46, Try.ntmps46
    go_wp2_with (fail)
    go_ret
    exact ⟨rfl, (Below.refl _ _).alloc (Nat.le_refl _) _⟩
  · have hi : ¬ (60 : Int) < (xs.length : Int) := by omega
    rw [if_neg h]
    clear h
    go_enter Try.func46, Try.ntmps46
    go_wp2_with (fail)
    go_ret
    exact ⟨rfl, (Below.refl _ _).alloc (Nat.le_refl _) _⟩
end Go.Proofs.Ythpicdilonlgiaa
