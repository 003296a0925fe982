/- The walk of hardtackref43's Same, at two lists that are one. -/
import Derived.Test.YtjhhhkhcnohmiaaMinimT
import Derived.Deep.LoopGhost
import Derived.BigQuiet
namespace Go.Proofs.Ytjhhhkhcnohmiaa
open Go.RowKit Go.Lib

theorem eq_q (s : ByteArray) (t c : Int) (w : World) : (binOp .eql 39 (.agg #[.string s, .int .u16 t, .int .u16 c]) (.agg #[.string s, .int .u16 t, .int .u16 c])).run Try.prog w = .ok (.bool true) w := by
  have hS : Try.prog.underlying 39 = some (.struct (Try.prog.fieldsOf 39)) := by kernel_rfl
  have hp : Try.prog.stoodInHeld 39 = false := by kernel_rfl
  have u1 := Try.underlying9
  have a1 := Try.isAgg9
  have z1 := Try.sizeOf9
  have u2 := Try.underlying37
  have a2 := Try.isAgg37
  have z2 := Try.sizeOf37
  have u3 := Try.underlying36
  have a3 := Try.isAgg36
  have z3 := Try.sizeOf36
  rw [run_eql_struct, show (10000 : Nat) = 9999 + 1 from rfl, run_equalIn_agg w 9999 _ _ _ hS hp]
  simp only [Program.fieldsOf, Try.underlying39]
  go_simp
theorem neq_q (s : ByteArray) (t c : Int) (w : World) : (binOp .neq 39 (.agg #[.string s, .int .u16 t, .int .u16 c]) (.agg #[.string s, .int .u16 t, .int .u16 c])).run Try.prog w = .ok (.bool false) w := by
  have h := eq_q s t c w
  rw [run_eql_struct] at h
  rw [run_neq_struct]
  cases hh : (Op.equalIn 10000 39 (.agg #[.string s, .int .u16 t, .int .u16 c]) (.agg #[.string s, .int .u16 t, .int .u16 c])).run Try.prog w with
  | ok b w' =>
    rw [hh] at h
    simp only [Result.andThen_ok, Result.ok.injEq, Value.bool.injEq] at h ⊢
    rw [h.1, h.2]
    exact ⟨rfl, rfl⟩
  | halt x w' =>
    rw [hh] at h
    simp [Result.andThen] at h

/-- A slice that reads as questions. -/
def QTab (w : World) (A : Option Addr) (xs : List Qn) : Prop :=
  0 < xs.length → ∃ b, A = some ⟨b, 0, none⟩ ∧ b < w.heap.size ∧ ∀ (j : Nat) (e : Qn), xs[j]? = some e → ∀ i v, e.vs[i]? = some v → w.cell? ⟨b, j * 3 + i, none⟩ = some v
theorem QTab.below {w w' : World} {A : Option Addr} {xs : List Qn} (h : QTab w A xs) (hb : Below w.heap.size w w') : QTab w' A xs := fun hn => by
  obtain ⟨b, hA, hlt, hc⟩ := h hn
  exact ⟨b, hA, Nat.lt_of_lt_of_le hlt hb.size, fun j e he i v hv => by rw [hb.cell (p := ⟨b, j * 3 + i, none⟩) hlt]; exact hc j e he i v hv⟩
theorem qtab_of_sl {w : World} {A : Option Addr} {c : Nat} {xs : List Qn} (h : Sl w 3 (.slice A xs.length c) xs.length (flatQ xs)) : QTab w A xs := fun hp => by
  obtain ⟨g, cap, hv, hg, _, _, h4⟩ := h.form hp
  injection hv with hA _ _
  subst hA
  exact ⟨g, rfl, hg, fun j e he i u hu => h4 (j * 3 + i) u (flatQ_at xs j e i u he hu)⟩

set_option maxRecDepth 100000 in
set_option maxHeartbeats 2000000 in
theorem sameQ_any (xs : List Qn) (A B : Option Addr) (c d : Nat) (w : World) (hA : QTab w A xs) (hB : QTab w B xs) (hn : xs.length ≤ 4096) :
    Calls Try.prog 59 #[.slice A xs.length c, .slice B xs.length d] w fun e w' => e = .returned (.bool true) ∧ Below w.heap.size w w' := by
  have HA := Lib.hid (And.intro hA hB)
  have hlI : (xs.length : Int) ≤ 4096 := by omega
  have hnn : ((xs.length : Int) != (xs.length : Int)) = false := by simp
  clear hA hB
  go_enter Try.func59, Try.ntmps59
  go_wp2_with (fail)
  go_loopg [5, 13] xs.length (fun g _ v wr => ∃ k : Nat, g + k = xs.length ∧ v = .int .i64 (k : Int) ∧ ∃ m, wr = w.drewN m)
  case atStart => exact ⟨0, by omega, rfl, 0, rfl⟩
  case round =>
    obtain ⟨k, hg, rfl, m, rfl⟩ := hrel
    by_cases hlt : k < xs.length
    · obtain ⟨a, rfl, hal, hac⟩ := HA.out.1 (by omega)
      obtain ⟨b, rfl, hbl, hbc⟩ := HA.out.2 (by omega)
      obtain ⟨e, he⟩ : ∃ e, xs[k]? = some e := ⟨_, List.getElem?_eq_getElem hlt⟩
      have a0 : w.cell? ⟨a, k * 3, none⟩ = some (.string e.n) := hac k e he 0 _ rfl
      have a1 : w.cell? ⟨a, k * 3 + 1, none⟩ = some (.int .u16 e.t) := hac k e he 1 _ rfl
      have a2 : w.cell? ⟨a, k * 3 + 2, none⟩ = some (.int .u16 e.c) := hac k e he 2 _ rfl
      have b0 : w.cell? ⟨b, k * 3, none⟩ = some (.string e.n) := hbc k e he 0 _ rfl
      have b1 : w.cell? ⟨b, k * 3 + 1, none⟩ = some (.int .u16 e.t) := hbc k e he 1 _ rfl
      have b2 : w.cell? ⟨b, k * 3 + 2, none⟩ = some (.int .u16 e.c) := hbc k e he 2 _ rfl
      have hq := neq_q e.n e.t e.c
      have hltI : (k : Int) < (xs.length : Int) := by omega
      have hkI : (k : Int) ≤ 4096 := by omega
      clear hac hbc
      generalize hV : w.drewN m = V
      have a0 : V.cell? ⟨a, k * 3, none⟩ = some (.string e.n) := by rw [← hV]; exact a0
      have a1 : V.cell? ⟨a, k * 3 + 1, none⟩ = some (.int .u16 e.t) := by rw [← hV]; exact a1
      have a2 : V.cell? ⟨a, k * 3 + 2, none⟩ = some (.int .u16 e.c) := by rw [← hV]; exact a2
      have b0 : V.cell? ⟨b, k * 3, none⟩ = some (.string e.n) := by rw [← hV]; exact b0
      have b1 : V.cell? ⟨b, k * 3 + 1, none⟩ = some (.int .u16 e.t) := by rw [← hV]; exact b1
      have b2 : V.cell? ⟨b, k * 3 + 2, none⟩ = some (.int .u16 e.c) := by rw [← hV]; exact b2
      have HV := Lib.hid hV
      clear hV
      go_wp2_with (fail)
      go_quiet (fail)
      go_wp2_with (fail)
      go_roundg (xs.length - (k + 1))
      case measure => omega
      case rel => exact ⟨k + 1, by omega, by go_num, m + nq, by rw [← HV.out, World.drewN_drewN]⟩
    · obtain rfl : k = xs.length := by omega
      go_wp2_with (fail)
      go_ret
      exact ⟨rfl, below_drewN (Below.refl _ _) _⟩
end Go.Proofs.Ytjhhhkhcnohmiaa
