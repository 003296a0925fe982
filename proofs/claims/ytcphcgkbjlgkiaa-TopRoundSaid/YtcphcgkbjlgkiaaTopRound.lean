/- The law TopRound, walked. -/
import Derived.Test.YtcphcgkbjlgkiaaAskLives
import Derived.Test.YtcphcgkbjlgkiaaWith
import Derived.Test.YtcphcgkbjlgkiaaGiveBackM
import Derived.Test.YtcphcgkbjlgkiaaGiveSO
import Derived.Test.YtcphcgkbjlgkiaaTopBegin
namespace Go.Proofs.Ytcphcgkbjlgkiaa
open Go.RowKit Go.Lib

set_option maxRecDepth 100000 in
set_option maxHeartbeats 4000000 in
theorem topRound_out (i : Bool) (xs : List Entry) (A : Option Addr) (m : Nat) (k sn sw nx : ByteArray) (a b : Nat) (now n : Int) (w : World) (hT : Tab w A xs) (hbig : xs.length ≤ 9223372036854775807) (hk : k.size ≤ maxLen) (hsn : sn.size ≤ maxLen) (hnx : nx.size ≤ maxLen)
    (h : 60 < xs.length ∨ (xs.length ≤ 60 ∧ ((k.size : Int) != 16) = true) ∨ (xs.length ≤ 60 ∧ ((k.size : Int) != 16) = false ∧ ((sn.size : Int) != 16) = true) ∨ (xs.length ≤ 60 ∧ ((k.size : Int) != 16) = false ∧ ((sn.size : Int) != 16) = false ∧ ((nx.size : Int) != 16) = true) ∨ (xs.length ≤ 60 ∧ ((k.size : Int) != 16) = false ∧ ((sn.size : Int) != 16) = false ∧ ((nx.size : Int) != 16) = false ∧ now < 0) ∨ (xs.length ≤ 60 ∧ ((k.size : Int) != 16) = false ∧ ((sn.size : Int) != 16) = false ∧ ((nx.size : Int) != 16) = false ∧ ¬ now < 0 ∧ 1099511627776 < now)) :
    Calls Try.prog 11 #[.agg #[.bool i, .slice A xs.length m], .string k, .agg #[.string sn, .string sw], .string nx, .int .u32 (a : Int), .int .u32 (b : Int), .int .i64 now, .int .u16 n] w fun e w' => e = .returned (.bool true) ∧ Below w.heap.size w w' := by
  have S0 := Lib.hid (SO.start i A xs.length m sn sw hT)
  have hS := fun W => small_any i xs A m W hbig
  unfold maxLen at hk hsn hnx
  have z1 : (k.size : Int) ≤ 9223372036854775807 := by omega
  have z2 : (sn.size : Int) ≤ 9223372036854775807 := by omega
  have z3 : (nx.size : Int) ≤ 9223372036854775807 := by omega
  clear hT hbig hk hsn hnx
  rcases h with h | h | h | h | h | h
  · simp only [if_pos h] at hS
    have HS := Lib.hid hS
    clear hS h
    go_enter Try.func11, Try.ntmps11
    go_wp2_with (fail)
    with_reducible refine (begins_any _).mono ?_
    rintro e w1 ⟨rfl, hb⟩
    have S1 := Lib.hid ((S0.out).next hb)
    have c0 : w1.cell? ⟨w.heap.size, 0, none⟩ = some (.bool i) := S1.out.1.cell 0
    have c1 : w1.cell? ⟨w.heap.size, 1, none⟩ = some (.slice A xs.length m) := S1.out.1.cell 1
    have d0 : w1.cell? ⟨w.heap.size + 1, 0, none⟩ = some (.string sn) := S1.out.2.1.cell 0
    have d1 : w1.cell? ⟨w.heap.size + 1, 1, none⟩ = some (.string sw) := S1.out.2.1.cell 1
    have l0 : w.heap.size < w1.heap.size := S1.out.1.lt
    have l1 : w.heap.size + 1 < w1.heap.size := S1.out.2.1.lt
    clear hb
    go_wp2_with (fail)
    with_reducible refine (HS.out _).mono ?_
    rintro e w2 ⟨rfl, hb⟩
    have S2 := Lib.hid ((S1.out).next hb)
    clear c0 c1 d0 d1 l0 l1
    have c0 : w2.cell? ⟨w.heap.size, 0, none⟩ = some (.bool i) := S2.out.1.cell 0
    have c1 : w2.cell? ⟨w.heap.size, 1, none⟩ = some (.slice A xs.length m) := S2.out.1.cell 1
    have d0 : w2.cell? ⟨w.heap.size + 1, 0, none⟩ = some (.string sn) := S2.out.2.1.cell 0
    have d1 : w2.cell? ⟨w.heap.size + 1, 1, none⟩ = some (.string sw) := S2.out.2.1.cell 1
    have l0 : w.heap.size < w2.heap.size := S2.out.1.lt
    have l1 : w.heap.size + 1 < w2.heap.size := S2.out.2.1.lt
    clear hb
    go_wp2_with (fail)
    go_ret
    exact ⟨rfl, S2.out.2.2.1⟩
  · obtain ⟨h, h1⟩ := h
    simp only [if_neg (show ¬ 60 < xs.length by omega)] at hS
    have HS := Lib.hid hS
    clear hS h
    go_enter Try.func11, Try.ntmps11
    go_wp2_with (fail)
    with_reducible refine (begins_any _).mono ?_
    rintro e w1 ⟨rfl, hb⟩
    have S1 := Lib.hid ((S0.out).next hb)
    have c0 : w1.cell? ⟨w.heap.size, 0, none⟩ = some (.bool i) := S1.out.1.cell 0
    have c1 : w1.cell? ⟨w.heap.size, 1, none⟩ = some (.slice A xs.length m) := S1.out.1.cell 1
    have d0 : w1.cell? ⟨w.heap.size + 1, 0, none⟩ = some (.string sn) := S1.out.2.1.cell 0
    have d1 : w1.cell? ⟨w.heap.size + 1, 1, none⟩ = some (.string sw) := S1.out.2.1.cell 1
    have l0 : w.heap.size < w1.heap.size := S1.out.1.lt
    have l1 : w.heap.size + 1 < w1.heap.size := S1.out.2.1.lt
    clear hb
    go_wp2_with (fail)
    with_reducible refine (HS.out _).mono ?_
    rintro e w2 ⟨rfl, hb⟩
    have S2 := Lib.hid ((S1.out).next hb)
    clear c0 c1 d0 d1 l0 l1
    have c0 : w2.cell? ⟨w.heap.size, 0, none⟩ = some (.bool i) := S2.out.1.cell 0
    have c1 : w2.cell? ⟨w.heap.size, 1, none⟩ = some (.slice A xs.length m) := S2.out.1.cell 1
    have d0 : w2.cell? ⟨w.heap.size + 1, 0, none⟩ = some (.string sn) := S2.out.2.1.cell 0
    have d1 : w2.cell? ⟨w.heap.size + 1, 1, none⟩ = some (.string sw) := S2.out.2.1.cell 1
    have l0 : w.heap.size < w2.heap.size := S2.out.1.lt
    have l1 : w.heap.size + 1 < w2.heap.size := S2.out.2.1.lt
    clear hb
    go_wp2_with (fail)
    go_ret
    exact ⟨rfl, S2.out.2.2.1⟩
  · obtain ⟨h, h1, h2⟩ := h
    simp only [if_neg (show ¬ 60 < xs.length by omega)] at hS
    have HS := Lib.hid hS
    clear hS h
    go_enter Try.func11, Try.ntmps11
    go_wp2_with (fail)
    with_reducible refine (begins_any _).mono ?_
    rintro e w1 ⟨rfl, hb⟩
    have S1 := Lib.hid ((S0.out).next hb)
    have c0 : w1.cell? ⟨w.heap.size, 0, none⟩ = some (.bool i) := S1.out.1.cell 0
    have c1 : w1.cell? ⟨w.heap.size, 1, none⟩ = some (.slice A xs.length m) := S1.out.1.cell 1
    have d0 : w1.cell? ⟨w.heap.size + 1, 0, none⟩ = some (.string sn) := S1.out.2.1.cell 0
    have d1 : w1.cell? ⟨w.heap.size + 1, 1, none⟩ = some (.string sw) := S1.out.2.1.cell 1
    have l0 : w.heap.size < w1.heap.size := S1.out.1.lt
    have l1 : w.heap.size + 1 < w1.heap.size := S1.out.2.1.lt
    clear hb
    go_wp2_with (fail)
    with_reducible refine (HS.out _).mono ?_
    rintro e w2 ⟨rfl, hb⟩
    have S2 := Lib.hid ((S1.out).next hb)
    clear c0 c1 d0 d1 l0 l1
    have c0 : w2.cell? ⟨w.heap.size, 0, none⟩ = some (.bool i) := S2.out.1.cell 0
    have c1 : w2.cell? ⟨w.heap.size, 1, none⟩ = some (.slice A xs.length m) := S2.out.1.cell 1
    have d0 : w2.cell? ⟨w.heap.size + 1, 0, none⟩ = some (.string sn) := S2.out.2.1.cell 0
    have d1 : w2.cell? ⟨w.heap.size + 1, 1, none⟩ = some (.string sw) := S2.out.2.1.cell 1
    have l0 : w.heap.size < w2.heap.size := S2.out.1.lt
    have l1 : w.heap.size + 1 < w2.heap.size := S2.out.2.1.lt
    clear hb
    go_wp2_with (fail)
    go_ret
    exact ⟨rfl, S2.out.2.2.1⟩
  · obtain ⟨h, h1, h2, h3⟩ := h
    simp only [if_neg (show ¬ 60 < xs.length by omega)] at hS
    have HS := Lib.hid hS
    clear hS h
    go_enter Try.func11, Try.ntmps11
    go_wp2_with (fail)
    with_reducible refine (begins_any _).mono ?_
    rintro e w1 ⟨rfl, hb⟩
    have S1 := Lib.hid ((S0.out).next hb)
    have c0 : w1.cell? ⟨w.heap.size, 0, none⟩ = some (.bool i) := S1.out.1.cell 0
    have c1 : w1.cell? ⟨w.heap.size, 1, none⟩ = some (.slice A xs.length m) := S1.out.1.cell 1
    have d0 : w1.cell? ⟨w.heap.size + 1, 0, none⟩ = some (.string sn) := S1.out.2.1.cell 0
    have d1 : w1.cell? ⟨w.heap.size + 1, 1, none⟩ = some (.string sw) := S1.out.2.1.cell 1
    have l0 : w.heap.size < w1.heap.size := S1.out.1.lt
    have l1 : w.heap.size + 1 < w1.heap.size := S1.out.2.1.lt
    clear hb
    go_wp2_with (fail)
    with_reducible refine (HS.out _).mono ?_
    rintro e w2 ⟨rfl, hb⟩
    have S2 := Lib.hid ((S1.out).next hb)
    clear c0 c1 d0 d1 l0 l1
    have c0 : w2.cell? ⟨w.heap.size, 0, none⟩ = some (.bool i) := S2.out.1.cell 0
    have c1 : w2.cell? ⟨w.heap.size, 1, none⟩ = some (.slice A xs.length m) := S2.out.1.cell 1
    have d0 : w2.cell? ⟨w.heap.size + 1, 0, none⟩ = some (.string sn) := S2.out.2.1.cell 0
    have d1 : w2.cell? ⟨w.heap.size + 1, 1, none⟩ = some (.string sw) := S2.out.2.1.cell 1
    have l0 : w.heap.size < w2.heap.size := S2.out.1.lt
    have l1 : w.heap.size + 1 < w2.heap.size := S2.out.2.1.lt
    clear hb
    go_wp2_with (fail)
    go_ret
    exact ⟨rfl, S2.out.2.2.1⟩
  · obtain ⟨h, h1, h2, h3, h4⟩ := h
    simp only [if_neg (show ¬ 60 < xs.length by omega)] at hS
    have HS := Lib.hid hS
    clear hS h
    go_enter Try.func11, Try.ntmps11
    go_wp2_with (fail)
    with_reducible refine (begins_any _).mono ?_
    rintro e w1 ⟨rfl, hb⟩
    have S1 := Lib.hid ((S0.out).next hb)
    have c0 : w1.cell? ⟨w.heap.size, 0, none⟩ = some (.bool i) := S1.out.1.cell 0
    have c1 : w1.cell? ⟨w.heap.size, 1, none⟩ = some (.slice A xs.length m) := S1.out.1.cell 1
    have d0 : w1.cell? ⟨w.heap.size + 1, 0, none⟩ = some (.string sn) := S1.out.2.1.cell 0
    have d1 : w1.cell? ⟨w.heap.size + 1, 1, none⟩ = some (.string sw) := S1.out.2.1.cell 1
    have l0 : w.heap.size < w1.heap.size := S1.out.1.lt
    have l1 : w.heap.size + 1 < w1.heap.size := S1.out.2.1.lt
    clear hb
    go_wp2_with (fail)
    with_reducible refine (HS.out _).mono ?_
    rintro e w2 ⟨rfl, hb⟩
    have S2 := Lib.hid ((S1.out).next hb)
    clear c0 c1 d0 d1 l0 l1
    have c0 : w2.cell? ⟨w.heap.size, 0, none⟩ = some (.bool i) := S2.out.1.cell 0
    have c1 : w2.cell? ⟨w.heap.size, 1, none⟩ = some (.slice A xs.length m) := S2.out.1.cell 1
    have d0 : w2.cell? ⟨w.heap.size + 1, 0, none⟩ = some (.string sn) := S2.out.2.1.cell 0
    have d1 : w2.cell? ⟨w.heap.size + 1, 1, none⟩ = some (.string sw) := S2.out.2.1.cell 1
    have l0 : w.heap.size < w2.heap.size := S2.out.1.lt
    have l1 : w.heap.size + 1 < w2.heap.size := S2.out.2.1.lt
    clear hb
    go_wp2_with (fail)
    go_ret
    exact ⟨rfl, S2.out.2.2.1⟩
  · obtain ⟨h, h1, h2, h3, h4, h5⟩ := h
    simp only [if_neg (show ¬ 60 < xs.length by omega)] at hS
    have HS := Lib.hid hS
    clear hS h
    go_enter Try.func11, Try.ntmps11
    go_wp2_with (fail)
    with_reducible refine (begins_any _).mono ?_
    rintro e w1 ⟨rfl, hb⟩
    have S1 := Lib.hid ((S0.out).next hb)
    have c0 : w1.cell? ⟨w.heap.size, 0, none⟩ = some (.bool i) := S1.out.1.cell 0
    have c1 : w1.cell? ⟨w.heap.size, 1, none⟩ = some (.slice A xs.length m) := S1.out.1.cell 1
    have d0 : w1.cell? ⟨w.heap.size + 1, 0, none⟩ = some (.string sn) := S1.out.2.1.cell 0
    have d1 : w1.cell? ⟨w.heap.size + 1, 1, none⟩ = some (.string sw) := S1.out.2.1.cell 1
    have l0 : w.heap.size < w1.heap.size := S1.out.1.lt
    have l1 : w.heap.size + 1 < w1.heap.size := S1.out.2.1.lt
    clear hb
    go_wp2_with (fail)
    with_reducible refine (HS.out _).mono ?_
    rintro e w2 ⟨rfl, hb⟩
    have S2 := Lib.hid ((S1.out).next hb)
    clear c0 c1 d0 d1 l0 l1
    have c0 : w2.cell? ⟨w.heap.size, 0, none⟩ = some (.bool i) := S2.out.1.cell 0
    have c1 : w2.cell? ⟨w.heap.size, 1, none⟩ = some (.slice A xs.length m) := S2.out.1.cell 1
    have d0 : w2.cell? ⟨w.heap.size + 1, 0, none⟩ = some (.string sn) := S2.out.2.1.cell 0
    have d1 : w2.cell? ⟨w.heap.size + 1, 1, none⟩ = some (.string sw) := S2.out.2.1.cell 1
    have l0 : w.heap.size < w2.heap.size := S2.out.1.lt
    have l1 : w.heap.size + 1 < w2.heap.size := S2.out.2.1.lt
    clear hb
    go_wp2_with (fail)
    go_ret
    exact ⟨rfl, S2.out.2.2.1⟩

set_option maxRecDepth 100000 in
set_option maxHeartbeats 4000000 in
theorem topRound_main (i : Bool) (xs : List Entry) (A : Option Addr) (m : Nat) (k sn sw nx : ByteArray) (a b : Nat) (now n : Int) (w : World) (hT : Tab w A xs) (hx : xs.length ≤ 60) (h1 : ((k.size : Int) != 16) = false) (h2 : ((sn.size : Int) != 16) = false) (h3 : ((nx.size : Int) != 16) = false) (h4 : 0 ≤ now) (h5 : now ≤ 1099511627776) (hn0 : 0 ≤ n) (hn1 : n ≤ 65535)
    (X Z : ByteArray) (hr : rightB X Z = true) (hXs : X.size ≤ maxLen) (hZs : Z.size ≤ maxLen) (b1 b2 : Bool) (e1 : Int)
    (hC : ∀ W, Tab W A xs → Calls Try.prog 22 #[.agg #[.bool i, .slice A xs.length m], .string k, .int .u32 (a : Int)] W fun e w' => e = .returned (.tuple #[.string X, .int .i64 0]) ∧ Below W.heap.size W w')
    (hM : ∀ W, Tab W A xs → Calls Try.prog 33 #[.agg #[.bool i, .slice A xs.length m], .string sn, .string X, .int .u32 (b : Int), .int .i64 now] W fun e w' => e = .returned (.tuple #[.string Z, .int .i64 0]) ∧ Below W.heap.size W w')
    (hV1 : ∀ W, Tab W A xs → Calls Try.prog 35 #[.agg #[.bool i, .slice A xs.length m], .agg #[.string sn, .string sw], .string X, .string Z, .int .u32 (b : Int), .int .i64 (now + n)] W fun e w' => e = .returned (.tuple #[.bool b1, .int .i64 e1]) ∧ Below W.heap.size W w')
    (hR : ∀ W, Calls Try.prog 37 #[.agg #[.string sn, .string sw], .string nx] W fun e w' => e = .returned (.tuple #[.agg #[.string nx, .string sn], .int .i64 0]) ∧ Below W.heap.size W w')
    (hV2 : ∀ W, Tab W A xs → Calls Try.prog 35 #[.agg #[.bool i, .slice A xs.length m], .agg #[.string nx, .string sn], .string X, .string Z, .int .u32 (b : Int), .int .i64 (now + n)] W fun e w' => e = .returned (.tuple #[.bool b2, .int .i64 e1]) ∧ Below W.heap.size W w')
    (hcase : (n ≤ 3600 ∧ e1 = 0) ∨ (¬ n ≤ 3600 ∧ e1 = 10)) :
    Calls Try.prog 11 #[.agg #[.bool i, .slice A xs.length m], .string k, .agg #[.string sn, .string sw], .string nx, .int .u32 (a : Int), .int .u32 (b : Int), .int .i64 now, .int .u16 n] w fun e w' => e = .returned (.bool true) ∧ Below w.heap.size w w' := by
  have hbig : xs.length ≤ 9223372036854775807 := by omega
  have S0 := Lib.hid (SO.start i A xs.length m sn sw hT)
  have hS := fun W => small_any i xs A m W hbig
  simp only [if_neg (show ¬ 60 < xs.length by omega)] at hS
  have HS := Lib.hid hS
  have HC := Lib.hid hC
  have HM := Lib.hid hM
  have HV1 := Lib.hid hV1
  have HR := Lib.hid hR
  have HV2 := Lib.hid hV2
  have HW := Lib.hid (fun W => With_yes false 0 0 0 0 none [] 0 X Z hXs hZs W (otab_nil W) (by decide) hr)
  have HA := Lib.hid (fun A' m' W hT => accK true (show acR X true (ckR (withO [] X Z)) = (Z, 0) by rw [ckR_with [] X Z hr]; unfold acR; rw [if_neg (by simp), if_pos rfl, if_pos (by simp)]) A' m' W hT (by unfold withO; simp [lefts]))
  have z1 : ¬ now < 0 := by omega
  have z2 : ¬ 1099511627776 < now := by omega
  have s1 : -9223372036854775808 ≤ now + n := by omega
  have s2 : now + n ≤ 9223372036854775807 := by omega
  have k1 : k.size ≤ 16 := by simp at h1; omega
  have k2 : sn.size ≤ 16 := by simp at h2; omega
  have k3 : nx.size ≤ 16 := by simp at h3; omega
  clear hS hT hbig hx hC hM hV1 hR hV2 hr hXs hZs h4 h5
  rcases hcase with ⟨g1, rfl⟩ | ⟨g1, rfl⟩
  all_goals
    go_enter Try.func11, Try.ntmps11
    go_wp2_with (fail)
    with_reducible refine (begins_any _).mono ?_
    rintro e w1 ⟨rfl, hb⟩
    have S1 := Lib.hid ((S0.out).next hb)
    have c0 : w1.cell? ⟨w.heap.size, 0, none⟩ = some (.bool i) := S1.out.1.cell 0
    have c1 : w1.cell? ⟨w.heap.size, 1, none⟩ = some (.slice A xs.length m) := S1.out.1.cell 1
    have d0 : w1.cell? ⟨w.heap.size + 1, 0, none⟩ = some (.string sn) := S1.out.2.1.cell 0
    have d1 : w1.cell? ⟨w.heap.size + 1, 1, none⟩ = some (.string sw) := S1.out.2.1.cell 1
    have l0 : w.heap.size < w1.heap.size := S1.out.1.lt
    have l1 : w.heap.size + 1 < w1.heap.size := S1.out.2.1.lt
    clear hb
    go_wp2_with (fail)
    with_reducible refine (HS.out _).mono ?_
    rintro e w2 ⟨rfl, hb⟩
    have S2 := Lib.hid ((S1.out).next hb)
    clear c0 c1 d0 d1 l0 l1
    have c0 : w2.cell? ⟨w.heap.size, 0, none⟩ = some (.bool i) := S2.out.1.cell 0
    have c1 : w2.cell? ⟨w.heap.size, 1, none⟩ = some (.slice A xs.length m) := S2.out.1.cell 1
    have d0 : w2.cell? ⟨w.heap.size + 1, 0, none⟩ = some (.string sn) := S2.out.2.1.cell 0
    have d1 : w2.cell? ⟨w.heap.size + 1, 1, none⟩ = some (.string sw) := S2.out.2.1.cell 1
    have l0 : w.heap.size < w2.heap.size := S2.out.1.lt
    have l1 : w.heap.size + 1 < w2.heap.size := S2.out.2.1.lt
    clear hb
    go_wp2_with (fail)
    with_reducible refine (HC.out _ S2.out.tab).mono ?_
    rintro e w3 ⟨rfl, hb⟩
    have S3 := Lib.hid ((S2.out).next hb)
    clear c0 c1 d0 d1 l0 l1
    have c0 : w3.cell? ⟨w.heap.size, 0, none⟩ = some (.bool i) := S3.out.1.cell 0
    have c1 : w3.cell? ⟨w.heap.size, 1, none⟩ = some (.slice A xs.length m) := S3.out.1.cell 1
    have d0 : w3.cell? ⟨w.heap.size + 1, 0, none⟩ = some (.string sn) := S3.out.2.1.cell 0
    have d1 : w3.cell? ⟨w.heap.size + 1, 1, none⟩ = some (.string sw) := S3.out.2.1.cell 1
    have l0 : w.heap.size < w3.heap.size := S3.out.1.lt
    have l1 : w.heap.size + 1 < w3.heap.size := S3.out.2.1.lt
    clear hb
    go_wp2_with (fail)
    with_reducible refine (HM.out _ S3.out.tab).mono ?_
    rintro e w4 ⟨rfl, hb⟩
    have S4 := Lib.hid ((S3.out).next hb)
    clear c0 c1 d0 d1 l0 l1
    have c0 : w4.cell? ⟨w.heap.size, 0, none⟩ = some (.bool i) := S4.out.1.cell 0
    have c1 : w4.cell? ⟨w.heap.size, 1, none⟩ = some (.slice A xs.length m) := S4.out.1.cell 1
    have d0 : w4.cell? ⟨w.heap.size + 1, 0, none⟩ = some (.string sn) := S4.out.2.1.cell 0
    have d1 : w4.cell? ⟨w.heap.size + 1, 1, none⟩ = some (.string sw) := S4.out.2.1.cell 1
    have l0 : w.heap.size < w4.heap.size := S4.out.1.lt
    have l1 : w.heap.size + 1 < w4.heap.size := S4.out.2.1.lt
    clear hb
    go_wp2_with (fail)
    refine (HW.out _).mono ?_
    rintro e w5 ⟨A', m', rfl, hO, hb⟩
    have S5 := Lib.hid ((S4.out).next hb)
    clear c0 c1 d0 d1 l0 l1
    have c0 : w5.cell? ⟨w.heap.size, 0, none⟩ = some (.bool i) := S5.out.1.cell 0
    have c1 : w5.cell? ⟨w.heap.size, 1, none⟩ = some (.slice A xs.length m) := S5.out.1.cell 1
    have d0 : w5.cell? ⟨w.heap.size + 1, 0, none⟩ = some (.string sn) := S5.out.2.1.cell 0
    have d1 : w5.cell? ⟨w.heap.size + 1, 1, none⟩ = some (.string sw) := S5.out.2.1.cell 1
    have l0 : w.heap.size < w5.heap.size := S5.out.1.lt
    have l1 : w.heap.size + 1 < w5.heap.size := S5.out.2.1.lt
    clear hb
    have hO5 := Lib.hid (hO.below ((Below.refl _ _).alloc (Nat.le_refl _) (.cells #[.bool true, .int .u16 0, .int .u8 0, .int .u8 0, .int .u16 0, .slice A' (withO [] X Z).length m'] 43)))
    clear hO
    go_wp2_with (fail)
    have T5 := Lib.hid (S5.out.next ((Below.refl _ _).alloc (Nat.le_refl _) (.cells #[.bool true, .int .u16 0, .int .u8 0, .int .u8 0, .int .u16 0, .slice A' (withO [] X Z).length m'] 43)))
    with_reducible refine (HA.out A' m' _ hO5.out).mono ?_
    rintro e w6 ⟨rfl, hb⟩
    have S6 := Lib.hid (T5.out.next hb)
    clear c0 c1 d0 d1 l0 l1
    have c0 : w6.cell? ⟨w.heap.size, 0, none⟩ = some (.bool i) := S6.out.1.cell 0
    have c1 : w6.cell? ⟨w.heap.size, 1, none⟩ = some (.slice A xs.length m) := S6.out.1.cell 1
    have d0 : w6.cell? ⟨w.heap.size + 1, 0, none⟩ = some (.string sn) := S6.out.2.1.cell 0
    have d1 : w6.cell? ⟨w.heap.size + 1, 1, none⟩ = some (.string sw) := S6.out.2.1.cell 1
    have l0 : w.heap.size < w6.heap.size := S6.out.1.lt
    have l1 : w.heap.size + 1 < w6.heap.size := S6.out.2.1.lt
    clear hb
    go_wp2_with (fail)
    with_reducible refine (HV1.out _ S6.out.tab).mono ?_
    rintro e w7 ⟨rfl, hb⟩
    have S7 := Lib.hid ((S6.out).next hb)
    clear c0 c1 d0 d1 l0 l1
    have c0 : w7.cell? ⟨w.heap.size, 0, none⟩ = some (.bool i) := S7.out.1.cell 0
    have c1 : w7.cell? ⟨w.heap.size, 1, none⟩ = some (.slice A xs.length m) := S7.out.1.cell 1
    have d0 : w7.cell? ⟨w.heap.size + 1, 0, none⟩ = some (.string sn) := S7.out.2.1.cell 0
    have d1 : w7.cell? ⟨w.heap.size + 1, 1, none⟩ = some (.string sw) := S7.out.2.1.cell 1
    have l0 : w.heap.size < w7.heap.size := S7.out.1.lt
    have l1 : w.heap.size + 1 < w7.heap.size := S7.out.2.1.lt
    clear hb
    go_wp2_with (fail)
    with_reducible refine (HR.out _).mono ?_
    rintro e w8 ⟨rfl, hb⟩
    have S8 := Lib.hid ((S7.out).next hb)
    clear c0 c1 d0 d1 l0 l1
    have c0 : w8.cell? ⟨w.heap.size, 0, none⟩ = some (.bool i) := S8.out.1.cell 0
    have c1 : w8.cell? ⟨w.heap.size, 1, none⟩ = some (.slice A xs.length m) := S8.out.1.cell 1
    have d0 : w8.cell? ⟨w.heap.size + 1, 0, none⟩ = some (.string sn) := S8.out.2.1.cell 0
    have d1 : w8.cell? ⟨w.heap.size + 1, 1, none⟩ = some (.string sw) := S8.out.2.1.cell 1
    have l0 : w.heap.size < w8.heap.size := S8.out.1.lt
    have l1 : w.heap.size + 1 < w8.heap.size := S8.out.2.1.lt
    clear hb
    go_wp2_with (fail)
    have T8 := Lib.hid (S8.out.next ((Below.refl _ _).alloc (Nat.le_refl _) (.cells #[.string nx, .string sn] 59)))
    with_reducible refine (HV2.out _ T8.out.tab).mono ?_
    rintro e w9 ⟨rfl, hb⟩
    have S9 := Lib.hid (T8.out.next hb)
    clear hb
    go_wp2_with (fail)
    go_ret
    refine ⟨?_, S9.out.2.2.1⟩
    first | rfl | (show Ending.returned (.bool (decide (n ≤ 3600))) = _; rw [decide_eq_true g1]) | (show Ending.returned (.bool (!decide (n ≤ 3600))) = _; rw [decide_eq_false (by omega)]; rfl)

theorem topRound_law (w : World) (i : Bool) (A : Option Addr) (xs : List Entry) (m : Nat) (k sn sw nx : ByteArray) (a b now n : Int) (hT : Tab w A xs) (_hl : xs.length ≤ m) (hm : m ≤ maxLen) (hk : k.size ≤ maxLen) (hsn : sn.size ≤ maxLen) (hsw : sw.size ≤ maxLen) (hnx : nx.size ≤ maxLen) (ha : 0 ≤ a ∧ a ≤ 4294967295) (hb : 0 ≤ b ∧ b ≤ 4294967295) (_hnow : -9223372036854775808 ≤ now ∧ now ≤ 9223372036854775807) (hn : 0 ≤ n ∧ n ≤ 65535) :
    Calls Try.prog 11 #[.agg #[.bool i, .slice A xs.length m], .string k, .agg #[.string sn, .string sw], .string nx, .int .u32 a, .int .u32 b, .int .i64 now, .int .u16 n] w fun e w' => e = .returned (.bool true) ∧ Below w.heap.size w w' := by
  obtain ⟨a, rfl⟩ := Int.eq_ofNat_of_zero_le ha.1
  obtain ⟨b, rfl⟩ := Int.eq_ofNat_of_zero_le hb.1
  have hb' : b < 4294967296 := by omega
  have hbig : xs.length ≤ 9223372036854775807 := by unfold maxLen at hm; omega
  have out := topRound_out i xs A m k sn sw nx a b now n w hT hbig hk hsn hnx
  by_cases h0 : 60 < xs.length
  · exact out (.inl h0)
  have h0' : xs.length ≤ 60 := by omega
  cases h1 : ((k.size : Int) != 16) with
  | true => exact out (.inr (.inl ⟨h0', h1⟩))
  | false =>
  cases h2 : ((sn.size : Int) != 16) with
  | true => exact out (.inr (.inr (.inl ⟨h0', h1, h2⟩)))
  | false =>
  cases h3 : ((nx.size : Int) != 16) with
  | true => exact out (.inr (.inr (.inr (.inl ⟨h0', h1, h2, h3⟩))))
  | false =>
  by_cases h4 : now < 0
  · exact out (.inr (.inr (.inr (.inr (.inl ⟨h0', h1, h2, h3, h4⟩)))))
  by_cases h5 : 1099511627776 < now
  · exact out (.inr (.inr (.inr (.inr (.inr ⟨h0', h1, h2, h3, h4, h5⟩)))))
  have e1 : k.size = 16 := by simp at h1; omega
  have e2 : sn.size = 16 := by simp at h2; omega
  have e3 : nx.size = 16 := by simp at h3; omega
  have hE : clE k a = 0 := by
    unfold clE sumE
    rw [if_neg (by simp; omega), if_neg (by rw [show (atext a).data.toList.length = 7 from atext_size a]; omega)]
  obtain ⟨X, hX⟩ : ∃ X : ByteArray, (⟨(clL i xs k a).toArray⟩ : ByteArray) = X := ⟨_, rfl⟩
  have hXl : clL i xs k a = X.data.toList := by rw [← hX]
  have hX8 : X.size = 8 := by
    have : X.data.toList.length = 8 := by rw [← hXl]; unfold clL; rw [if_pos hE]; simp [bytesL]
    simpa using this
  have hC := fun W hT => Client_any i xs A m k a (by omega) (by omega) W hT hbig
  rw [hX, hE] at hC
  obtain ⟨t, ht⟩ : ∃ t : Nat, now % 4294967296 = (t : Int) := ⟨(now % 4294967296).toNat, by omega⟩
  have hMk := fun W hT => Make_yes i xs A m sn X b now t ht hb' (by omega) hX8 W hT hbig
  have hcl : X.data.toList.length = 8 := by simpa using hX8
  have hEk := cookE_eq sn X.data.toList b t (by omega)
  rw [if_neg (by omega)] at hEk
  obtain ⟨Z, hZ⟩ : ∃ Z : ByteArray, (⟨(cookL i xs sn X.data.toList b t).toArray⟩ : ByteArray) = Z := ⟨_, rfl⟩
  have hZl : cookL i xs sn X.data.toList b t = Z.data.toList := by rw [← hZ]
  have hZ16 : Z.size = 16 := by
    have := cook_len (i := i) (xs := xs) hEk
    rw [hZl] at this
    simpa using this
  rw [hZ, hEk] at hMk
  have hvm := fun (u v : ByteArray) => ver_made (i := i) (xs := xs) (sn := u) (sw := v) (k := sn) (n := n) hcl hEk (by omega) ht
  rw [hZl] at hvm
  have hXm : X.size ≤ maxLen := by unfold maxLen; omega
  have hZm : Z.size ≤ maxLen := by unfold maxLen; omega
  have hV := fun (u v : ByteArray) (h1 : u.size ≤ maxLen) (h2 : v.size ≤ maxLen) W hT => Verify_any i xs A m u v X Z b (now + n) hXm hZm hb' h1 h2 W hT hbig
  have hr : rightB X Z = true := by
    unfold rightB
    rw [hX8, hZ16]
    decide
  have q1 : (verR i xs sn sw X.data.toList Z.data.toList b (now + n)).2 = if n ≤ 3600 then 0 else 10 := by
    rw [hvm sn sw]
    by_cases hq : n ≤ 3600
    · rw [if_neg (by omega), if_pos ⟨hEk, hZl⟩, if_pos hq]
    · rw [if_pos (by omega), if_neg hq]
  have q2 : (verR i xs nx sn X.data.toList Z.data.toList b (now + n)).2 = if n ≤ 3600 then 0 else 10 := by
    rw [hvm nx sn]
    by_cases hq : n ≤ 3600
    · rw [if_neg (by omega), if_pos hq]
      split
      · rfl
      · rw [if_pos ⟨hEk, hZl⟩]
    · rw [if_pos (by omega), if_neg hq]
  have hV1 := hV sn sw hsn hsw
  have hV2 := hV nx sn hnx hsn
  unfold VerPost at hV1 hV2
  rw [q1] at hV1
  rw [q2] at hV2
  refine topRound_main i xs A m k sn sw nx a b now n w hT h0' h1 h2 h3 (by omega) (by omega) hn.1 hn.2 X Z hr hXm hZm _ _ _ hC hMk hV1 (fun W => Roll_yes sn sw nx e3 W) hV2 ?_
  by_cases hq : n ≤ 3600
  · exact .inl ⟨hq, if_pos hq⟩
  · exact .inr ⟨hq, if_neg hq⟩
end Go.Proofs.Ytcphcgkbjlgkiaa
