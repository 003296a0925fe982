/- The law SipRounds, walked: it returns true, for every state, number of rounds and text, and nothing that was there has turned. -/
import Derived.Test.YthpicdilonlgiaaSipNoTwo
namespace Go.Proofs.Ythpicdilonlgiaa
open Go.RowKit

set_option maxRecDepth 100000 in
set_option maxHeartbeats 1000000 in
theorem sipRounds_any (a b c d : BitVec 64) (n : Int) (s : ByteArray) (hn : -9223372036854775808 ≤ n ∧ n ≤ 9223372036854775807) (hs : s.size ≤ maxLen) (w : World) :
    Calls Try.prog 6 #[.agg #[.int .u64 (U a), .int .u64 (U b), .int .u64 (U c), .int .u64 (U d)], .int .i64 n, .string s] w
      fun e w' => e = .returned (.bool true) ∧ Below w.heap.size w w' := by
  obtain ⟨n0, n1⟩ := hn
  have HS := Lib.hid hs
  clear hs
  have hrun := run_eql_arr4
  have hua : U a = (a.toNat : Int) := rfl
  have HUA := Lib.hid hua
  clear hua
  have hub := U_bd a
  have hba : ∀ w : World, Calls Try.prog 40 #[.int .u64 (U a)] w fun e w' => e = .returned (.string ⟨(bytesL a.toNat 8).toArray⟩) ∧ Below w.heap.size w w' := fun w => bytes_any a.toNat (by omega) w
  have hra : ∀ w : World, Calls Try.prog 41 #[.int .u64 (U a)] w fun e w' => e = .returned (.string ⟨(bytesL a.toNat 8).toArray⟩) ∧ Below w.heap.size w w' := fun w => rbytes_any a.toNat (by omega) w
  have HBA := Lib.hid hba
  have HRA := Lib.hid hra
  clear hba hra
  generalize (bytesL a.toNat 8).toArray = bs at HBA HRA
  go_enter Try.func6, Try.ntmps6
  go_wp2_with (fail)
  refine (value_any s HS.out _).mono ?_
  rintro e w' ⟨rfl, rfl⟩
  go_wp2_with (fail)
  refine (rvalue_any s HS.out _).mono ?_
  rintro e w' ⟨rfl, rfl⟩
  go_wp2_with (fail)
  obtain ⟨W0, hW0⟩ : ∃ W0, w.alloc (.cells #[.int .u64 (U a), .int .u64 (U b), .int .u64 (U c), .int .u64 (U d)] 36) = W0 := ⟨_, rfl⟩
  have hB1 : Below w.heap.size w W0 := by rw [← hW0]; exact (Below.refl _ _).alloc (Nat.le_refl _) _
  have hz1 : w.heap.size < W0.heap.size := by rw [← hW0]; simp
  have hk0 : W0.cell? ⟨w.heap.size, 0, none⟩ = some (.int .u64 (U a)) := by rw [← hW0]; simp [go_sem]
  have hk1 : W0.cell? ⟨w.heap.size, 1, none⟩ = some (.int .u64 (U b)) := by rw [← hW0]; simp [go_sem]
  have hk2 : W0.cell? ⟨w.heap.size, 2, none⟩ = some (.int .u64 (U c)) := by rw [← hW0]; simp [go_sem]
  have hk3 : W0.cell? ⟨w.heap.size, 3, none⟩ = some (.int .u64 (U d)) := by rw [← hW0]; simp [go_sem]
  rw [hW0]
  clear hW0
  go_region_held3 (fun w' => w'.cell? ⟨w.heap.size, 0, none⟩ = some (.int .u64 (U a)) ∧ w'.cell? ⟨w.heap.size, 1, none⟩ = some (.int .u64 (U b)) ∧ w'.cell? ⟨w.heap.size, 2, none⟩ = some (.int .u64 (U c)) ∧ w'.cell? ⟨w.heap.size, 3, none⟩ = some (.int .u64 (U d)) ∧ w.heap.size < w'.heap.size ∧ Below w.heap.size w w')
    ((repeat' apply And.intro) <;> first | assumption | (simp [*, go_sem]; done) | (simp [*, go_sem]; omega) | exact Below.drew (by assumption) | exact below_drewN (by assumption) _ | (refine Below.trans ?_ (Below.mono hb ?_) <;> first | assumption | exact Below.drew (by assumption) | exact below_drewN (by assumption) _ | omega | (simp; omega) | (simp [*]; done) | (refine below_drewN ?_ _; simp [*]; done) | (simp_all; done) | (simp_all; omega)) | (refine (Below.cell hb ?_).trans ?_ <;> first | assumption | (simp; omega) | omega | (simp [*, go_sem]; done)) | (simp at hbs; omega) | omega)
    (first
      | (go_at_call 37; refine (lives08 _).mono ?_; rintro e w' ⟨rfl, hb⟩; have hbs := hb.size)
      | (go_at_call 38; refine (Round_any a b c d n ⟨n0, n1⟩ _).mono ?_; rintro e w' ⟨rfl, hb⟩; have hbs := hb.size)
      | (go_at_call 39; refine (Round_ref a b c d n ⟨n0, n1⟩ _).mono ?_; rintro e w' ⟨rfl, hb⟩; have hbs := hb.size)
      | (go_at_call 40; refine (HBA.out _).mono ?_; rintro e w' ⟨rfl, hb⟩; have hbs := hb.size)
      | (go_at_call 41; refine (HRA.out _).mono ?_; rintro e w' ⟨rfl, hb⟩; have hbs := hb.size))
  all_goals
    go_wp2
    go_ret
    exact ⟨retb (by simp), by first | assumption | (simp [*]; done) | (simp_all; done)⟩
end Go.Proofs.Ythpicdilonlgiaa
