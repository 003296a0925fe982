/- The law SipNoTwo, walked: it returns true, for every state and number of rounds that may be, and nothing that was there has turned. -/
import Derived.Test.YthpicdilonlgiaaSipLives
namespace Go.Proofs.Ythpicdilonlgiaa
open Go.RowKit

theorem Round_o (a b c d : BitVec 64) (n : Int) (h0 : 0 ≤ n) (h1 : n ≤ 64) (w : World) : Calls Try.prog 38 #[.agg #[.int .u64 (U a), .int .u64 (U b), .int .u64 (U c), .int .u64 (U d)], .int .i64 n] w
    fun e w' => e = .returned (v4 (rnds (most n) (a, b, c, d))) ∧ Below w.heap.size w w' := Round_any a b c d n (by omega) w

def eq4 (u v : V4) : Bool := U u.1 == U v.1 && (U u.2.1 == U v.2.1 && (U u.2.2.1 == U v.2.2.1 && U u.2.2.2 == U v.2.2.2))
theorem eq4_iff (u v : V4) : eq4 u v = true ↔ u = v := by
  obtain ⟨a, b, c, d⟩ := u
  obtain ⟨a', b', c', d'⟩ := v
  simp only [eq4, Bool.and_eq_true, beq_iff_eq, Prod.mk.injEq]
  constructor
  · rintro ⟨h1, h2, h3, h4⟩
    exact ⟨U_inj h1, U_inj h2, U_inj h3, U_inj h4⟩
  · rintro ⟨rfl, rfl, rfl, rfl⟩
    exact ⟨rfl, rfl, rfl, rfl⟩
theorem run_eql_v4 (u v : V4) (w : World) : (binOp .eql 36 (.agg #[.int .u64 (U u.1), .int .u64 (U u.2.1), .int .u64 (U u.2.2.1), .int .u64 (U u.2.2.2)]) (.agg #[.int .u64 (U v.1), .int .u64 (U v.2.1), .int .u64 (U v.2.2.1), .int .u64 (U v.2.2.2)])).run Try.prog w = .ok (.bool (eq4 u v)) w :=
  run_eql_arr4 _ _ _ _ _ _ _ _ w

set_option maxRecDepth 100000 in
set_option maxHeartbeats 1000000 in
theorem sipNoTwo_any (a b c d a' b' c' d' : BitVec 64) (m n : Int) (hm : 0 ≤ m ∧ m ≤ 255) (hn : 0 ≤ n ∧ n ≤ 255) (w : World) :
    Calls Try.prog 8 #[.agg #[.int .u64 (U a), .int .u64 (U b), .int .u64 (U c), .int .u64 (U d)], .agg #[.int .u64 (U a'), .int .u64 (U b'), .int .u64 (U c'), .int .u64 (U d')], .int .u8 m, .int .u8 n] w
      fun e w' => e = .returned (.bool true) ∧ Below w.heap.size w w' := by
  obtain ⟨m0, m1⟩ := hm
  obtain ⟨n0, n1⟩ := hn
  have q0 : 0 ≤ m % 32 := by omega
  have q1 : m % 32 ≤ 31 := by omega
  have q2 : 0 ≤ n % 32 := by omega
  have q3 : n % 32 ≤ 31 := by omega
  go_enter Try.func8, Try.ntmps8
  go_wp2_with (fail)
  refine (lives08 _).mono ?_
  rintro e w1 ⟨rfl, hb1⟩
  obtain ⟨hc, hf⟩ := bcell hb1
  have hz := hb1.size
  simp at hz
  go_wp2_with (fail)
  have hk0 : w1.cell? ⟨w.heap.size, 0, none⟩ = some (.int .u64 (U a)) := by rw [hc _ _ (by simp; omega)]; simp [go_sem, World.cell?_alloc_past]
  have hk1 : w1.cell? ⟨w.heap.size, 1, none⟩ = some (.int .u64 (U b)) := by rw [hc _ _ (by simp; omega)]; simp [go_sem, World.cell?_alloc_past]
  have hk2 : w1.cell? ⟨w.heap.size, 2, none⟩ = some (.int .u64 (U c)) := by rw [hc _ _ (by simp; omega)]; simp [go_sem, World.cell?_alloc_past]
  have hk3 : w1.cell? ⟨w.heap.size, 3, none⟩ = some (.int .u64 (U d)) := by rw [hc _ _ (by simp; omega)]; simp [go_sem, World.cell?_alloc_past]
  have hj0 : w1.cell? ⟨w.heap.size + 1, 0, none⟩ = some (.int .u64 (U a')) := by rw [hc _ _ (by simp)]; simp [go_sem]
  have hj1 : w1.cell? ⟨w.heap.size + 1, 1, none⟩ = some (.int .u64 (U b')) := by rw [hc _ _ (by simp)]; simp [go_sem]
  have hj2 : w1.cell? ⟨w.heap.size + 1, 2, none⟩ = some (.int .u64 (U c')) := by rw [hc _ _ (by simp)]; simp [go_sem]
  have hj3 : w1.cell? ⟨w.heap.size + 1, 3, none⟩ = some (.int .u64 (U d')) := by rw [hc _ _ (by simp)]; simp [go_sem]
  have hB1 : Below w.heap.size w w1 := (((Below.refl _ _).alloc (Nat.le_refl _) _).alloc (by simp) _).trans (hb1.mono (by simp; omega))
  have hz1 : w.heap.size + 1 < w1.heap.size := by omega
  have hE : rnds (most (n % 32)) (rnds (most (m % 32)) (a, b, c, d)) = rnds (most (m % 32 + n % 32)) (a, b, c, d) := by
    rw [rnds_add]; congr 1; unfold most; omega
  have hadd : IntKind.i64.wrap (m % 32 + n % 32) = m % 32 + n % 32 := IntWalk.i64_in _ (by omega)
  have hrun := run_eql_arr4
  clear hc hf hb1 hz
  have hinj : ∀ x y : V4, rnds (most 1) x = rnds (most 1) y ↔ x = y := by
    intro x y
    have e : most 1 = 1 := by decide
    rw [e]
    exact ⟨fun h => rnd_inj _ _ h, fun h => by rw [h]⟩
  obtain ⟨bb, hbb⟩ : ∃ bb : Bool, bb = eq4 (a, b, c, d) (a', b', c', d') := ⟨_, rfl⟩
  have E1 : (U (rnds (most 1) (a, b, c, d)).1 == U (rnds (most 1) (a', b', c', d')).1 && (U (rnds (most 1) (a, b, c, d)).2.1 == U (rnds (most 1) (a', b', c', d')).2.1 && (U (rnds (most 1) (a, b, c, d)).2.2.1 == U (rnds (most 1) (a', b', c', d')).2.2.1 && U (rnds (most 1) (a, b, c, d)).2.2.2 == U (rnds (most 1) (a', b', c', d')).2.2.2))) = bb := by
    rw [hbb]
    show eq4 (rnds (most 1) (a, b, c, d)) (rnds (most 1) (a', b', c', d')) = _
    rw [Bool.eq_iff_iff, eq4_iff, eq4_iff, hinj]
  have E2 : (U a == U a' && (U b == U b' && (U c == U c' && U d == U d'))) = bb := hbb.symm
  clear hinj hbb
  go_region_held3 (fun w' => w'.cell? ⟨w.heap.size, 0, none⟩ = some (.int .u64 (U a)) ∧ w'.cell? ⟨w.heap.size, 1, none⟩ = some (.int .u64 (U b)) ∧ w'.cell? ⟨w.heap.size, 2, none⟩ = some (.int .u64 (U c)) ∧ w'.cell? ⟨w.heap.size, 3, none⟩ = some (.int .u64 (U d)) ∧ w'.cell? ⟨w.heap.size + 1, 0, none⟩ = some (.int .u64 (U a')) ∧ w'.cell? ⟨w.heap.size + 1, 1, none⟩ = some (.int .u64 (U b')) ∧ w'.cell? ⟨w.heap.size + 1, 2, none⟩ = some (.int .u64 (U c')) ∧ w'.cell? ⟨w.heap.size + 1, 3, none⟩ = some (.int .u64 (U d')) ∧ w.heap.size + 1 < w'.heap.size ∧ Below w.heap.size w w')
    ((repeat' apply And.intro) <;> first | assumption | (simp [*, go_sem]; done) | (simp [*, go_sem]; omega) | exact Below.drew (by assumption) | exact below_drewN (by assumption) _ | (refine Below.trans ?_ (Below.mono hb ?_) <;> first | assumption | exact Below.drew (by assumption) | exact below_drewN (by assumption) _ | omega | (simp; omega) | (simp [*]; done) | (refine below_drewN ?_ _; simp [*]; done) | (simp_all; done) | (simp_all; omega)) | (refine (Below.cell hb ?_).trans ?_ <;> first | assumption | (simp; omega) | omega | (simp [*, go_sem]; done)) | (simp at hbs; omega) | omega)
    (first | (go_at_call 38; refine (Round_o _ _ _ _ _ ?_ ?_ _).mono ?_; omega; omega; rintro e w' ⟨rfl, hb⟩; have hbs := hb.size))
  all_goals
    go_wp2
    go_ret
    exact ⟨retb (by simp), by first | assumption | (simp [*]; done) | (simp_all; done)⟩

theorem sipNoTwo_law (a b c d a' b' c' d' : BitVec 64) (m n : Int) (hm : 0 ≤ m ∧ m ≤ 255) (hn : 0 ≤ n ∧ n ≤ 255) (w : World) :
    Calls Try.prog 8 #[.agg #[.int .u64 (U a), .int .u64 (U b), .int .u64 (U c), .int .u64 (U d)], .agg #[.int .u64 (U a'), .int .u64 (U b'), .int .u64 (U c'), .int .u64 (U d')], .int .u8 m, .int .u8 n] w
      fun e w' => e = .returned (.bool true) ∧ Below w.heap.size w w' := sipNoTwo_any a b c d a' b' c' d' m n hm hn w
end Go.Proofs.Ythpicdilonlgiaa
