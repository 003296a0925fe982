/- The law GiveBack, walked to its end. -/
import Derived.Test.YtcphcgkbjlgkiaaGiveBack
namespace Go.Proofs.Ytcphcgkbjlgkiaa
open Go.RowKit

set_option maxRecDepth 100000 in
set_option maxHeartbeats 8000000 in
theorem giveBack_main (i : Bool) (xs : List Entry) (A : Option Addr) (m : Nat) (k c f Z : ByteArray) (a : Nat) (now n : Int) (hx : xs.length ≤ 60) (hc : c.size ≤ 1000) (hnow : -4611686018427387904 ≤ now ∧ now ≤ 4611686018427387904) (hn : -2147483648 ≤ n ∧ n ≤ 2147483647) (w : World) (hT : Tab w A xs)
    (hM : ∀ (W : World), Tab W A xs → Calls Try.prog 33 #[.agg #[.bool i, .slice A xs.length m], .string k, .string c, .int .u32 (a : Int), .int .i64 now] W fun r w' => r = .returned (.tuple #[.string Z, .int .i64 0]) ∧ Below W.heap.size W w')
    (b1 : Bool) (e1 : Int) (hV1 : ∀ (W : World), Tab W A xs → Calls Try.prog 35 #[.agg #[.bool i, .slice A xs.length m], .agg #[.string k, .string ⟨#[]⟩], .string c, .string Z, .int .u32 (a : Int), .int .i64 (now + n)] W fun r w' => r = .returned (.tuple #[.bool b1, .int .i64 e1]) ∧ Below W.heap.size W w')
    (Y : ByteArray) (hM2 : ∀ (W : World), Tab W A xs → Calls Try.prog 33 #[.agg #[.bool i, .slice A xs.length m], .string f, .string c, .int .u32 (a : Int), .int .i64 now] W fun r w' => r = .returned (.tuple #[.string Y, .int .i64 0]) ∧ Below W.heap.size W w')
    (b2 : Bool) (hV2 : ∀ (W : World), Tab W A xs → Calls Try.prog 35 #[.agg #[.bool i, .slice A xs.length m], .agg #[.string f, .string k], .string c, .string Z, .int .u32 (a : Int), .int .i64 (now + n)] W fun r w' => r = .returned (.tuple #[.bool b2, .int .i64 e1]) ∧ Below W.heap.size W w')
    (hcase : (n < -300 ∧ b1 = false ∧ e1 = 10) ∨ (3600 < n ∧ b1 = false ∧ e1 = 10) ∨ (-300 ≤ n ∧ n ≤ 3600 ∧ 1800 < n ∧ b1 = true ∧ e1 = 0 ∧ b2 = true) ∨ (-300 ≤ n ∧ n ≤ 3600 ∧ ¬ 1800 < n ∧ b1 = false ∧ e1 = 0 ∧ b2 = true ∧ (Y.toList == Z.toList) = false) ∨ (-300 ≤ n ∧ n ≤ 3600 ∧ ¬ 1800 < n ∧ b1 = false ∧ e1 = 0 ∧ b2 = false ∧ (Y.toList == Z.toList) = true)) (hf : f.size = 16) :
    Calls Try.prog 8 #[.agg #[.bool i, .slice A xs.length m], .string k, .string c, .string f, .int .u32 (a : Int), .int .i64 now, .int .i32 n] w fun e w' => e = .returned (.bool true) ∧ Below w.heap.size w w' := by
  have hbig : xs.length ≤ 9223372036854775807 := by omega
  have S0 := Lib.hid (SI.start i A xs.length m hT)
  have hS := fun W => small_any i xs A m W hbig
  simp only [if_neg (show ¬ 60 < xs.length by omega)] at hS
  have HS := Lib.hid hS
  have h1 : ¬ (1000 : Int) < (c.size : Int) := by omega
  have h2 : ¬ 4611686018427387904 < now := by omega
  have h3 : ¬ now < -4611686018427387904 := by omega
  have s3 : -2147483648 ≤ n := by omega
  have s4 : n ≤ 2147483647 := by omega
  have s1 : -9223372036854775808 ≤ now + n := by omega
  have s2 : now + n ≤ 9223372036854775807 := by omega
  have HM := Lib.hid hM
  have HV1 := Lib.hid hV1
  clear hS hM hV1 hx hc hnow hn hT hbig
  have HR := Lib.hid (fun W => Roll_yes k ⟨#[]⟩ f hf W)
  have HM2 := Lib.hid hM2
  have HV2 := Lib.hid hV2
  have h16 : ((f.size : Int) != 16) = false := by simp [hf]
  clear hf hM2 hV2
  rcases hcase with ⟨g1, rfl, rfl⟩ | ⟨g1, rfl, rfl⟩ | ⟨g1, g2, g3, rfl, rfl, rfl⟩ | ⟨g1, g2, g3, rfl, rfl, rfl, g4⟩ | ⟨g1, g2, g3, rfl, rfl, rfl, g4⟩
  · have g1' : ¬ (-300 : Int) ≤ n := by omega
    clear g1
    go_enter Try.func8, Try.ntmps8
    go_wp2_with (fail)
    with_reducible refine (lives12 _).mono ?_
    rintro e w1 ⟨rfl, hb⟩
    have S1 := Lib.hid (S0.out.next hb)
    have c0 : w1.cell? ⟨w.heap.size, 0, none⟩ = some (.bool i) := S1.out.1.cell 0
    have c1 : w1.cell? ⟨w.heap.size, 1, none⟩ = some (.slice A xs.length m) := S1.out.1.cell 1
    clear hb
    go_wp2_with (fail)
    with_reducible refine (HS.out _).mono ?_
    rintro e w2 ⟨rfl, hb⟩
    have S2 := Lib.hid (S1.out.next hb)
    have c0 : w2.cell? ⟨w.heap.size, 0, none⟩ = some (.bool i) := S2.out.1.cell 0
    have c1 : w2.cell? ⟨w.heap.size, 1, none⟩ = some (.slice A xs.length m) := S2.out.1.cell 1
    clear hb
    go_wp2_with (fail)
    with_reducible refine ((HM).out _ S2.out.tab).mono ?_
    rintro e w3 ⟨rfl, hb⟩
    have S3 := Lib.hid (S2.out.next hb)
    have c0 : w3.cell? ⟨w.heap.size, 0, none⟩ = some (.bool i) := S3.out.1.cell 0
    have c1 : w3.cell? ⟨w.heap.size, 1, none⟩ = some (.slice A xs.length m) := S3.out.1.cell 1
    clear hb
    go_wp2_with (fail)
    with_reducible refine ((HV1).out _ S3.out.tab).mono ?_
    rintro e w4 ⟨rfl, hb⟩
    have S4 := Lib.hid (S3.out.next hb)
    have c0 : w4.cell? ⟨w.heap.size, 0, none⟩ = some (.bool i) := S4.out.1.cell 0
    have c1 : w4.cell? ⟨w.heap.size, 1, none⟩ = some (.slice A xs.length m) := S4.out.1.cell 1
    clear hb
    go_wp2_with (fail)
    with_reducible refine (HR.out _).mono ?_
    rintro e w5 ⟨rfl, hb⟩
    have S5 := Lib.hid (S4.out.next hb)
    have c0 : w5.cell? ⟨w.heap.size, 0, none⟩ = some (.bool i) := S5.out.1.cell 0
    have c1 : w5.cell? ⟨w.heap.size, 1, none⟩ = some (.slice A xs.length m) := S5.out.1.cell 1
    have hl5 : w.heap.size < w5.heap.size := S5.out.1.lt
    clear hb
    go_wp2_with (fail)
    have S5a := Lib.hid (S5.out.alloc (.cells #[.string f, .string k] 59))
    with_reducible refine (HV2.out _ S5a.out.tab).mono ?_
    rintro e w6 ⟨rfl, hb⟩
    have S6 := Lib.hid (S5a.out.next hb)
    have c0 : w6.cell? ⟨w.heap.size, 0, none⟩ = some (.bool i) := S6.out.1.cell 0
    have c1 : w6.cell? ⟨w.heap.size, 1, none⟩ = some (.slice A xs.length m) := S6.out.1.cell 1
    clear hb
    go_wp2_with (fail)
    with_reducible refine (HM2.out _ S6.out.tab).mono ?_
    rintro e w7 ⟨rfl, hb⟩
    have S7 := Lib.hid (S6.out.next hb)
    clear hb
    go_wp2_with (fail)
    go_ret
    exact ⟨rfl, S7.out.2.1⟩
  · have g0 : (-300 : Int) ≤ n := by omega
    have g1' : ¬ n ≤ (3600 : Int) := by omega
    clear g1
    go_enter Try.func8, Try.ntmps8
    go_wp2_with (fail)
    with_reducible refine (lives12 _).mono ?_
    rintro e w1 ⟨rfl, hb⟩
    have S1 := Lib.hid (S0.out.next hb)
    have c0 : w1.cell? ⟨w.heap.size, 0, none⟩ = some (.bool i) := S1.out.1.cell 0
    have c1 : w1.cell? ⟨w.heap.size, 1, none⟩ = some (.slice A xs.length m) := S1.out.1.cell 1
    clear hb
    go_wp2_with (fail)
    with_reducible refine (HS.out _).mono ?_
    rintro e w2 ⟨rfl, hb⟩
    have S2 := Lib.hid (S1.out.next hb)
    have c0 : w2.cell? ⟨w.heap.size, 0, none⟩ = some (.bool i) := S2.out.1.cell 0
    have c1 : w2.cell? ⟨w.heap.size, 1, none⟩ = some (.slice A xs.length m) := S2.out.1.cell 1
    clear hb
    go_wp2_with (fail)
    with_reducible refine ((HM).out _ S2.out.tab).mono ?_
    rintro e w3 ⟨rfl, hb⟩
    have S3 := Lib.hid (S2.out.next hb)
    have c0 : w3.cell? ⟨w.heap.size, 0, none⟩ = some (.bool i) := S3.out.1.cell 0
    have c1 : w3.cell? ⟨w.heap.size, 1, none⟩ = some (.slice A xs.length m) := S3.out.1.cell 1
    clear hb
    go_wp2_with (fail)
    with_reducible refine ((HV1).out _ S3.out.tab).mono ?_
    rintro e w4 ⟨rfl, hb⟩
    have S4 := Lib.hid (S3.out.next hb)
    have c0 : w4.cell? ⟨w.heap.size, 0, none⟩ = some (.bool i) := S4.out.1.cell 0
    have c1 : w4.cell? ⟨w.heap.size, 1, none⟩ = some (.slice A xs.length m) := S4.out.1.cell 1
    clear hb
    go_wp2_with (fail)
    with_reducible refine (HR.out _).mono ?_
    rintro e w5 ⟨rfl, hb⟩
    have S5 := Lib.hid (S4.out.next hb)
    have c0 : w5.cell? ⟨w.heap.size, 0, none⟩ = some (.bool i) := S5.out.1.cell 0
    have c1 : w5.cell? ⟨w.heap.size, 1, none⟩ = some (.slice A xs.length m) := S5.out.1.cell 1
    have hl5 : w.heap.size < w5.heap.size := S5.out.1.lt
    clear hb
    go_wp2_with (fail)
    have S5a := Lib.hid (S5.out.alloc (.cells #[.string f, .string k] 59))
    with_reducible refine (HV2.out _ S5a.out.tab).mono ?_
    rintro e w6 ⟨rfl, hb⟩
    have S6 := Lib.hid (S5a.out.next hb)
    have c0 : w6.cell? ⟨w.heap.size, 0, none⟩ = some (.bool i) := S6.out.1.cell 0
    have c1 : w6.cell? ⟨w.heap.size, 1, none⟩ = some (.slice A xs.length m) := S6.out.1.cell 1
    clear hb
    go_wp2_with (fail)
    with_reducible refine (HM2.out _ S6.out.tab).mono ?_
    rintro e w7 ⟨rfl, hb⟩
    have S7 := Lib.hid (S6.out.next hb)
    clear hb
    go_wp2_with (fail)
    go_ret
    exact ⟨rfl, S7.out.2.1⟩
  · go_enter Try.func8, Try.ntmps8
    go_wp2_with (fail)
    with_reducible refine (lives12 _).mono ?_
    rintro e w1 ⟨rfl, hb⟩
    have S1 := Lib.hid (S0.out.next hb)
    have c0 : w1.cell? ⟨w.heap.size, 0, none⟩ = some (.bool i) := S1.out.1.cell 0
    have c1 : w1.cell? ⟨w.heap.size, 1, none⟩ = some (.slice A xs.length m) := S1.out.1.cell 1
    clear hb
    go_wp2_with (fail)
    with_reducible refine (HS.out _).mono ?_
    rintro e w2 ⟨rfl, hb⟩
    have S2 := Lib.hid (S1.out.next hb)
    have c0 : w2.cell? ⟨w.heap.size, 0, none⟩ = some (.bool i) := S2.out.1.cell 0
    have c1 : w2.cell? ⟨w.heap.size, 1, none⟩ = some (.slice A xs.length m) := S2.out.1.cell 1
    clear hb
    go_wp2_with (fail)
    with_reducible refine ((HM).out _ S2.out.tab).mono ?_
    rintro e w3 ⟨rfl, hb⟩
    have S3 := Lib.hid (S2.out.next hb)
    have c0 : w3.cell? ⟨w.heap.size, 0, none⟩ = some (.bool i) := S3.out.1.cell 0
    have c1 : w3.cell? ⟨w.heap.size, 1, none⟩ = some (.slice A xs.length m) := S3.out.1.cell 1
    clear hb
    go_wp2_with (fail)
    with_reducible refine ((HV1).out _ S3.out.tab).mono ?_
    rintro e w4 ⟨rfl, hb⟩
    have S4 := Lib.hid (S3.out.next hb)
    have c0 : w4.cell? ⟨w.heap.size, 0, none⟩ = some (.bool i) := S4.out.1.cell 0
    have c1 : w4.cell? ⟨w.heap.size, 1, none⟩ = some (.slice A xs.length m) := S4.out.1.cell 1
    clear hb
    go_wp2_with (fail)
    with_reducible refine (HR.out _).mono ?_
    rintro e w5 ⟨rfl, hb⟩
    have S5 := Lib.hid (S4.out.next hb)
    have c0 : w5.cell? ⟨w.heap.size, 0, none⟩ = some (.bool i) := S5.out.1.cell 0
    have c1 : w5.cell? ⟨w.heap.size, 1, none⟩ = some (.slice A xs.length m) := S5.out.1.cell 1
    have hl5 : w.heap.size < w5.heap.size := S5.out.1.lt
    clear hb
    go_wp2_with (fail)
    have S5a := Lib.hid (S5.out.alloc (.cells #[.string f, .string k] 59))
    with_reducible refine (HV2.out _ S5a.out.tab).mono ?_
    rintro e w6 ⟨rfl, hb⟩
    have S6 := Lib.hid (S5a.out.next hb)
    have c0 : w6.cell? ⟨w.heap.size, 0, none⟩ = some (.bool i) := S6.out.1.cell 0
    have c1 : w6.cell? ⟨w.heap.size, 1, none⟩ = some (.slice A xs.length m) := S6.out.1.cell 1
    clear hb
    go_wp2_with (fail)
    with_reducible refine (HM2.out _ S6.out.tab).mono ?_
    rintro e w7 ⟨rfl, hb⟩
    have S7 := Lib.hid (S6.out.next hb)
    clear hb
    go_wp2_with (fail)
    go_ret
    exact ⟨rfl, S7.out.2.1⟩
  · go_enter Try.func8, Try.ntmps8
    go_wp2_with (fail)
    with_reducible refine (lives12 _).mono ?_
    rintro e w1 ⟨rfl, hb⟩
    have S1 := Lib.hid (S0.out.next hb)
    have c0 : w1.cell? ⟨w.heap.size, 0, none⟩ = some (.bool i) := S1.out.1.cell 0
    have c1 : w1.cell? ⟨w.heap.size, 1, none⟩ = some (.slice A xs.length m) := S1.out.1.cell 1
    clear hb
    go_wp2_with (fail)
    with_reducible refine (HS.out _).mono ?_
    rintro e w2 ⟨rfl, hb⟩
    have S2 := Lib.hid (S1.out.next hb)
    have c0 : w2.cell? ⟨w.heap.size, 0, none⟩ = some (.bool i) := S2.out.1.cell 0
    have c1 : w2.cell? ⟨w.heap.size, 1, none⟩ = some (.slice A xs.length m) := S2.out.1.cell 1
    clear hb
    go_wp2_with (fail)
    with_reducible refine ((HM).out _ S2.out.tab).mono ?_
    rintro e w3 ⟨rfl, hb⟩
    have S3 := Lib.hid (S2.out.next hb)
    have c0 : w3.cell? ⟨w.heap.size, 0, none⟩ = some (.bool i) := S3.out.1.cell 0
    have c1 : w3.cell? ⟨w.heap.size, 1, none⟩ = some (.slice A xs.length m) := S3.out.1.cell 1
    clear hb
    go_wp2_with (fail)
    with_reducible refine ((HV1).out _ S3.out.tab).mono ?_
    rintro e w4 ⟨rfl, hb⟩
    have S4 := Lib.hid (S3.out.next hb)
    have c0 : w4.cell? ⟨w.heap.size, 0, none⟩ = some (.bool i) := S4.out.1.cell 0
    have c1 : w4.cell? ⟨w.heap.size, 1, none⟩ = some (.slice A xs.length m) := S4.out.1.cell 1
    clear hb
    go_wp2_with (fail)
    with_reducible refine (HR.out _).mono ?_
    rintro e w5 ⟨rfl, hb⟩
    have S5 := Lib.hid (S4.out.next hb)
    have c0 : w5.cell? ⟨w.heap.size, 0, none⟩ = some (.bool i) := S5.out.1.cell 0
    have c1 : w5.cell? ⟨w.heap.size, 1, none⟩ = some (.slice A xs.length m) := S5.out.1.cell 1
    have hl5 : w.heap.size < w5.heap.size := S5.out.1.lt
    clear hb
    go_wp2_with (fail)
    have S5a := Lib.hid (S5.out.alloc (.cells #[.string f, .string k] 59))
    with_reducible refine (HV2.out _ S5a.out.tab).mono ?_
    rintro e w6 ⟨rfl, hb⟩
    have S6 := Lib.hid (S5a.out.next hb)
    have c0 : w6.cell? ⟨w.heap.size, 0, none⟩ = some (.bool i) := S6.out.1.cell 0
    have c1 : w6.cell? ⟨w.heap.size, 1, none⟩ = some (.slice A xs.length m) := S6.out.1.cell 1
    clear hb
    go_wp2_with (fail)
    with_reducible refine (HM2.out _ S6.out.tab).mono ?_
    rintro e w7 ⟨rfl, hb⟩
    have S7 := Lib.hid (S6.out.next hb)
    clear hb
    go_wp2_with (fail)
    go_ret
    exact ⟨rfl, S7.out.2.1⟩
  · go_enter Try.func8, Try.ntmps8
    go_wp2_with (fail)
    with_reducible refine (lives12 _).mono ?_
    rintro e w1 ⟨rfl, hb⟩
    have S1 := Lib.hid (S0.out.next hb)
    have c0 : w1.cell? ⟨w.heap.size, 0, none⟩ = some (.bool i) := S1.out.1.cell 0
    have c1 : w1.cell? ⟨w.heap.size, 1, none⟩ = some (.slice A xs.length m) := S1.out.1.cell 1
    clear hb
    go_wp2_with (fail)
    with_reducible refine (HS.out _).mono ?_
    rintro e w2 ⟨rfl, hb⟩
    have S2 := Lib.hid (S1.out.next hb)
    have c0 : w2.cell? ⟨w.heap.size, 0, none⟩ = some (.bool i) := S2.out.1.cell 0
    have c1 : w2.cell? ⟨w.heap.size, 1, none⟩ = some (.slice A xs.length m) := S2.out.1.cell 1
    clear hb
    go_wp2_with (fail)
    with_reducible refine ((HM).out _ S2.out.tab).mono ?_
    rintro e w3 ⟨rfl, hb⟩
    have S3 := Lib.hid (S2.out.next hb)
    have c0 : w3.cell? ⟨w.heap.size, 0, none⟩ = some (.bool i) := S3.out.1.cell 0
    have c1 : w3.cell? ⟨w.heap.size, 1, none⟩ = some (.slice A xs.length m) := S3.out.1.cell 1
    clear hb
    go_wp2_with (fail)
    with_reducible refine ((HV1).out _ S3.out.tab).mono ?_
    rintro e w4 ⟨rfl, hb⟩
    have S4 := Lib.hid (S3.out.next hb)
    have c0 : w4.cell? ⟨w.heap.size, 0, none⟩ = some (.bool i) := S4.out.1.cell 0
    have c1 : w4.cell? ⟨w.heap.size, 1, none⟩ = some (.slice A xs.length m) := S4.out.1.cell 1
    clear hb
    go_wp2_with (fail)
    with_reducible refine (HR.out _).mono ?_
    rintro e w5 ⟨rfl, hb⟩
    have S5 := Lib.hid (S4.out.next hb)
    have c0 : w5.cell? ⟨w.heap.size, 0, none⟩ = some (.bool i) := S5.out.1.cell 0
    have c1 : w5.cell? ⟨w.heap.size, 1, none⟩ = some (.slice A xs.length m) := S5.out.1.cell 1
    have hl5 : w.heap.size < w5.heap.size := S5.out.1.lt
    clear hb
    go_wp2_with (fail)
    have S5a := Lib.hid (S5.out.alloc (.cells #[.string f, .string k] 59))
    with_reducible refine (HV2.out _ S5a.out.tab).mono ?_
    rintro e w6 ⟨rfl, hb⟩
    have S6 := Lib.hid (S5a.out.next hb)
    have c0 : w6.cell? ⟨w.heap.size, 0, none⟩ = some (.bool i) := S6.out.1.cell 0
    have c1 : w6.cell? ⟨w.heap.size, 1, none⟩ = some (.slice A xs.length m) := S6.out.1.cell 1
    clear hb
    go_wp2_with (fail)
    with_reducible refine (HM2.out _ S6.out.tab).mono ?_
    rintro e w7 ⟨rfl, hb⟩
    have S7 := Lib.hid (S6.out.next hb)
    clear hb
    go_wp2_with (fail)
    go_ret
    refine ⟨?_, S7.out.2.1⟩
    have g5 : ¬ 1800 < n := by omega
    show Ending.returned (.bool (!decide (1800 < n))) = _
    rw [decide_eq_false g5]
    rfl

theorem giveBack_law (w : World) (i : Bool) (A : Option Addr) (xs : List Entry) (m : Nat) (k c f : ByteArray) (a now n : Int) (hT : Tab w A xs) (hl : xs.length ≤ m) (hm : m ≤ maxLen) (hk : k.size ≤ maxLen) (hc : c.size ≤ maxLen) (hf : f.size ≤ maxLen) (ha : 0 ≤ a ∧ a ≤ 4294967295) (hnow : -9223372036854775808 ≤ now ∧ now ≤ 9223372036854775807) (hn : -2147483648 ≤ n ∧ n ≤ 2147483647) :
    Calls Try.prog 8 #[.agg #[.bool i, .slice A xs.length m], .string k, .string c, .string f, .int .u32 a, .int .i64 now, .int .i32 n] w fun e w' => e = .returned (.bool true) ∧ Below w.heap.size w w' := by
  obtain ⟨a, rfl⟩ := Int.eq_ofNat_of_zero_le ha.1
  have hbig : xs.length ≤ 9223372036854775807 := by unfold maxLen at hm; omega
  have hcb : c.size ≤ 9223372036854775807 := by unfold maxLen at hc; omega
  have hkb : k.size ≤ 9223372036854775807 := by unfold maxLen at hk; omega
  have hfb : f.size ≤ 9223372036854775807 := by unfold maxLen at hf; omega
  by_cases h1 : 60 < xs.length
  · exact giveBack_out i xs A m k c f a now n hbig hcb (.inl h1) w
  by_cases h2 : 1000 < c.size
  · exact giveBack_out i xs A m k c f a now n hbig hcb (.inr (.inl ⟨by omega, h2⟩)) w
  by_cases h3 : 4611686018427387904 < now
  · exact giveBack_out i xs A m k c f a now n hbig hcb (.inr (.inr (.inl ⟨by omega, by omega, h3⟩))) w
  by_cases h4 : now < -4611686018427387904
  · exact giveBack_out i xs A m k c f a now n hbig hcb (.inr (.inr (.inr ⟨by omega, by omega, by omega, h4⟩))) w
  have hx : xs.length ≤ 60 := by omega
  have hc1 : c.size ≤ 1000 := by omega
  have hno : -4611686018427387904 ≤ now ∧ now ≤ 4611686018427387904 := by omega
  have hcl : c.data.toList.length = c.size := by simp
  by_cases h8n : c.size ≠ 8
  · exact giveBack_no i xs A m k c f a now n hx hc1 hno w hT 2 (by decide) (fun W _ => Make_no i A xs.length m k c a now h8n hc W)
  have h8 : c.size = 8 := by omega
  obtain ⟨t, ht⟩ : ∃ t : Nat, now % 4294967296 = (t : Int) := ⟨(now % 4294967296).toNat, by omega⟩
  have hMk := fun W hT => Make_yes i xs A m k c a now t ht (by omega) hkb h8 W hT hbig
  have hEk := cookE_eq k c.data.toList a t (by omega)
  by_cases h16 : k.size ≠ 16
  · rw [if_pos h16] at hEk
    rw [cookL_no (by rw [hEk]; decide), hEk] at hMk
    exact giveBack_no i xs A m k c f a now n hx hc1 hno w hT 2 (by decide) hMk
  rw [if_neg (by omega)] at hEk
  have hvm := fun (sn sw : ByteArray) => ver_made (i := i) (xs := xs) (sn := sn) (sw := sw) (by omega : c.data.toList.length = 8) hEk hn ht
  obtain ⟨Z, hZ⟩ : ∃ Z : ByteArray, (⟨(cookL i xs k c.data.toList a t).toArray⟩ : ByteArray) = Z := ⟨_, rfl⟩
  have hZl : cookL i xs k c.data.toList a t = Z.data.toList := by rw [← hZ]
  have hZs : Z.size ≤ maxLen := by
    have := cook_len (i := i) (xs := xs) hEk
    rw [hZl] at this
    have h2 : Z.size = 16 := by simpa using this
    unfold maxLen; omega
  rw [hZ, hEk] at hMk
  rw [hZl] at hvm
  have hV := fun (sn sw : ByteArray) (h1 : sn.size ≤ maxLen) (h2 : sw.size ≤ maxLen) W hT => Verify_any i xs A m sn sw c Z a (now + n) hc hZs (by omega) h1 h2 W hT hbig
  have hv1 := hV k ⟨#[]⟩ hk (by decide)
  rw [hvm k ⟨#[]⟩] at hv1
  unfold VerPost at hv1
  rw [if_pos (⟨hEk, hZl⟩ : cookE k c.data.toList a t = 0 ∧ cookL i xs k c.data.toList a t = Z.data.toList)] at hv1
  by_cases hf16 : f.size = 16
  · have hEf := cookE_eq f c.data.toList a t (by omega)
    rw [if_neg (by omega)] at hEf
    have hMf := fun W hT => Make_yes i xs A m f c a now t ht (by omega) hfb h8 W hT hbig
    obtain ⟨Y, hY⟩ : ∃ Y : ByteArray, (⟨(cookL i xs f c.data.toList a t).toArray⟩ : ByteArray) = Y := ⟨_, rfl⟩
    have hYl : cookL i xs f c.data.toList a t = Y.data.toList := by rw [← hY]
    rw [hY, hEf] at hMf
    have hv2 := hV f k hf hk
    rw [hvm f k, hYl] at hv2
    unfold VerPost at hv2
    by_cases hlo : n < -300
    · rw [if_pos (.inl hlo)] at hv1 hv2
      exact giveBack_main i xs A m k c f Z a now n hx hc1 hno hn w hT hMk false 10 hv1 Y hMf false hv2 (.inl ⟨hlo, rfl, rfl⟩) hf16
    by_cases hhi : 3600 < n
    · rw [if_pos (.inr hhi)] at hv1 hv2
      exact giveBack_main i xs A m k c f Z a now n hx hc1 hno hn w hT hMk false 10 hv1 Y hMf false hv2 (.inr (.inl ⟨hhi, rfl, rfl⟩)) hf16
    have hfr : ¬ (n < -300 ∨ 3600 < n) := by omega
    rw [if_neg hfr] at hv1 hv2
    have hYZ : (Y.toList == Z.toList) = decide (Y.data.toList = Z.data.toList) := by
      rw [ByteArray.toList_eq, ByteArray.toList_eq, Bool.eq_iff_iff]; simp
    by_cases hr : 1800 < n
    · rw [decide_eq_true hr] at hv1 hv2
      have hb2 : (if cookE f c.data.toList a t = 0 ∧ Y.data.toList = Z.data.toList then (true, (0 : Int)) else if cookE k c.data.toList a t = 0 ∧ cookL i xs k c.data.toList a t = Z.data.toList then (true, 0) else (false, 6)) = (true, 0) := by
        split
        · rfl
        · rw [if_pos ⟨hEk, hZl⟩]
      rw [hb2] at hv2
      exact giveBack_main i xs A m k c f Z a now n hx hc1 hno hn w hT hMk true 0 hv1 Y hMf true hv2 (.inr (.inr (.inl ⟨by omega, by omega, hr, rfl, rfl, rfl⟩))) hf16
    · rw [decide_eq_false hr] at hv1 hv2
      by_cases he : Y.data.toList = Z.data.toList
      · rw [if_pos ⟨hEf, he⟩] at hv2
        exact giveBack_main i xs A m k c f Z a now n hx hc1 hno hn w hT hMk false 0 hv1 Y hMf false hv2 (.inr (.inr (.inr (.inr ⟨by omega, by omega, hr, rfl, rfl, rfl, by rw [hYZ, decide_eq_true he]⟩)))) hf16
      · rw [if_neg (fun h => he h.2), if_pos ⟨hEk, hZl⟩] at hv2
        exact giveBack_main i xs A m k c f Z a now n hx hc1 hno hn w hT hMk false 0 hv1 Y hMf true hv2 (.inr (.inr (.inr (.inl ⟨by omega, by omega, hr, rfl, rfl, rfl, by rw [hYZ, decide_eq_false he]⟩)))) hf16
  · by_cases hlo : n < -300
    · rw [if_pos (.inl hlo)] at hv1
      exact giveBack_roll i xs A m k c f Z a now n hx hc1 hno hn w hT hMk false 10 hv1 (.inl ⟨hlo, rfl, rfl⟩) hf16 hf
    by_cases hhi : 3600 < n
    · rw [if_pos (.inr hhi)] at hv1
      exact giveBack_roll i xs A m k c f Z a now n hx hc1 hno hn w hT hMk false 10 hv1 (.inr (.inl ⟨hhi, rfl, rfl⟩)) hf16 hf
    have hfr : ¬ (n < -300 ∨ 3600 < n) := by omega
    rw [if_neg hfr] at hv1
    by_cases hr : 1800 < n
    · rw [decide_eq_true hr] at hv1
      exact giveBack_roll i xs A m k c f Z a now n hx hc1 hno hn w hT hMk true 0 hv1 (.inr (.inr (.inl ⟨by omega, by omega, hr, rfl, rfl⟩))) hf16 hf
    · rw [decide_eq_false hr] at hv1
      exact giveBack_roll i xs A m k c f Z a now n hx hc1 hno hn w hT hMk false 0 hv1 (.inr (.inr (.inr ⟨by omega, by omega, hr, rfl, rfl⟩))) hf16 hf
end Go.Proofs.Ytcphcgkbjlgkiaa
