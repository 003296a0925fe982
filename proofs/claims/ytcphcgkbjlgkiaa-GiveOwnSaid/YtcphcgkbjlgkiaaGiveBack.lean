/- The law GiveBack, walked. -/
import Derived.Test.YtcphcgkbjlgkiaaGiveBackM
import Derived.Test.YtcphcgkbjlgkiaaGiveLives
import Derived.Test.YtcphcgkbjlgkiaaKeyedSame
namespace Go.Proofs.Ytcphcgkbjlgkiaa
open Go.RowKit

set_option maxRecDepth 100000 in
set_option maxHeartbeats 2000000 in
theorem giveBack_out (i : Bool) (xs : List Entry) (A : Option Addr) (m : Nat) (k c f : ByteArray) (a : Nat) (now n : Int) (hbig : xs.length ≤ 9223372036854775807) (hc : c.size ≤ 9223372036854775807)
    (h : 60 < xs.length ∨ (xs.length ≤ 60 ∧ 1000 < c.size) ∨ (xs.length ≤ 60 ∧ c.size ≤ 1000 ∧ 4611686018427387904 < now) ∨ (xs.length ≤ 60 ∧ c.size ≤ 1000 ∧ now ≤ 4611686018427387904 ∧ now < -4611686018427387904)) (w : World) :
    Calls Try.prog 8 #[.agg #[.bool i, .slice A xs.length m], .string k, .string c, .string f, .int .u32 (a : Int), .int .i64 now, .int .i32 n] w fun e w' => e = .returned (.bool true) ∧ Below w.heap.size w w' := by
  have hS := fun W => small_any i xs A m W hbig
  have hB0 : Blk (w.alloc (.cells #[.bool i, .slice A xs.length m] 27)) w.heap.size 27 #[.bool i, .slice A xs.length m] := Blk.new w _ _
  have hb0 : Below w.heap.size w (w.alloc (.cells #[.bool i, .slice A xs.length m] 27)) := (Below.refl _ _).alloc (Nat.le_refl _) _
  have hcase : ∃ v : Int, Hid (∀ W, Calls Try.prog 20 #[.agg #[.bool i, .slice A xs.length m]] W fun e w' => e = .returned (.int .i64 v) ∧ Below W.heap.size W w') ∧
      (v = 0 ∨ (v = 1 ∧ (1000 : Int) < (c.size : Int)) ∨ (v = 1 ∧ ¬ (1000 : Int) < (c.size : Int) ∧ 4611686018427387904 < now) ∨ (v = 1 ∧ ¬ (1000 : Int) < (c.size : Int) ∧ ¬ 4611686018427387904 < now ∧ now < -4611686018427387904)) := by
    refine ⟨_, Lib.hid hS, ?_⟩
    rcases h with h | ⟨h, h2⟩ | ⟨h, h2, h3⟩ | ⟨h, h2, h3, h4⟩
    · rw [if_pos h]; exact .inl rfl
    · rw [if_neg (by omega)]; exact .inr (.inl ⟨rfl, by omega⟩)
    · rw [if_neg (by omega)]; exact .inr (.inr (.inl ⟨rfl, by omega, h3⟩))
    · rw [if_neg (by omega)]; exact .inr (.inr (.inr ⟨rfl, by omega, by omega, h4⟩))
  obtain ⟨v, HS, hcase⟩ := hcase
  have H0 := Lib.hid (And.intro hB0 hb0)
  clear hS h hbig hB0 hb0
  rcases hcase with rfl | ⟨rfl, h1⟩ | ⟨rfl, h1, h2⟩ | ⟨rfl, h1, h2, h3⟩
  all_goals
    go_enter Try.func8, Try.ntmps8
    go_wp2_with (fail)
    refine (lives12 _).mono ?_
    rintro e w1 ⟨rfl, hb1⟩
    have hB1 := H0.out.1.below hb1 (by simp)
    have c0 : w1.cell? ⟨w.heap.size, 0, none⟩ = some (.bool i) := hB1.cell 0
    have c1 : w1.cell? ⟨w.heap.size, 1, none⟩ = some (.slice A xs.length m) := hB1.cell 1
    have B1 := Lib.hid (H0.out.2.trans (hb1.mono H0.out.2.size))
    clear hb1 hB1
    go_wp2_with (fail)
    refine (HS.out _).mono ?_
    rintro e w2 ⟨rfl, hb2⟩
    have B2 := Lib.hid (B1.out.trans (hb2.mono B1.out.size))
    clear hb2 c0 c1
    go_wp2_with (fail)
    go_ret
    exact ⟨rfl, B2.out⟩

/-- Where the walk stands: the hash in its box, nothing below turned. -/
def SI (w : World) (i : Bool) (A : Option Addr) (n m : Nat) (xs : List Entry) (W : World) : Prop := Blk W w.heap.size 27 #[.bool i, .slice A n m] ∧ Below w.heap.size w W ∧ Tab W A xs
theorem SI.next {w W W' : World} {i : Bool} {A : Option Addr} {n m : Nat} {xs : List Entry} (h : SI w i A n m xs W) (hb : Below W.heap.size W W') : SI w i A n m xs W' :=
  ⟨h.1.below hb h.1.lt, h.2.1.trans (hb.mono h.2.1.size), h.2.2.below hb⟩
theorem SI.tab {w W : World} {i : Bool} {A : Option Addr} {n m : Nat} {xs : List Entry} (h : SI w i A n m xs W) : Tab W A xs := h.2.2
theorem SI.start {w : World} (i : Bool) (A : Option Addr) (n m : Nat) {xs : List Entry} (hT : Tab w A xs) : SI w i A n m xs (w.alloc (.cells #[.bool i, .slice A n m] 27)) :=
  ⟨Blk.new w _ _, (Below.refl _ _).alloc (Nat.le_refl _) _, hT.below ((Below.refl _ _).alloc (Nat.le_refl _) _)⟩
theorem SI.alloc {w W : World} {i : Bool} {A : Option Addr} {n m : Nat} {xs : List Entry} (h : SI w i A n m xs W) (o : Obj) : SI w i A n m xs (W.alloc o) := h.next ((Below.refl _ _).alloc (Nat.le_refl _) _)

set_option maxRecDepth 100000 in
set_option maxHeartbeats 2000000 in
theorem giveBack_no (i : Bool) (xs : List Entry) (A : Option Addr) (m : Nat) (k c f : ByteArray) (a : Nat) (now n : Int) (hx : xs.length ≤ 60) (hc : c.size ≤ 1000) (hnow : -4611686018427387904 ≤ now ∧ now ≤ 4611686018427387904) (w : World) (hT : Tab w A xs)
    (e : Int) (he : e ≠ 0) (hM : ∀ (W : World), Tab W A xs → Calls Try.prog 33 #[.agg #[.bool i, .slice A xs.length m], .string k, .string c, .int .u32 (a : Int), .int .i64 now] W fun r w' => r = .returned (.tuple #[.string ⟨#[]⟩, .int .i64 e]) ∧ Below W.heap.size W w') :
    Calls Try.prog 8 #[.agg #[.bool i, .slice A xs.length m], .string k, .string c, .string f, .int .u32 (a : Int), .int .i64 now, .int .i32 n] w fun e w' => e = .returned (.bool true) ∧ Below w.heap.size w w' := by
  have hbig : xs.length ≤ 9223372036854775807 := by omega
  have S0 := Lib.hid (SI.start i A xs.length m hT)
  have hS := fun W => small_any i xs A m W hbig
  simp only [if_neg (show ¬ 60 < xs.length by omega)] at hS
  have HS := Lib.hid hS
  have h1 : ¬ (1000 : Int) < (c.size : Int) := by omega
  have h2 : ¬ 4611686018427387904 < now := by omega
  have h3 : ¬ now < -4611686018427387904 := by omega
  have HM := Lib.hid hM
  have hne : (e != 0) = true := by simpa using he
  clear hS hM he hx hc hnow hT hbig
  · go_enter Try.func8, Try.ntmps8
    go_wp2_with (fail)
    refine (lives12 _).mono ?_
    rintro e w1 ⟨rfl, hb⟩
    have S1 := Lib.hid (S0.out.next hb)
    have c0 : w1.cell? ⟨w.heap.size, 0, none⟩ = some (.bool i) := S1.out.1.cell 0
    have c1 : w1.cell? ⟨w.heap.size, 1, none⟩ = some (.slice A xs.length m) := S1.out.1.cell 1
    clear hb
    go_wp2_with (fail)
    refine (HS.out _).mono ?_
    rintro e w2 ⟨rfl, hb⟩
    have S2 := Lib.hid (S1.out.next hb)
    have c0 : w2.cell? ⟨w.heap.size, 0, none⟩ = some (.bool i) := S2.out.1.cell 0
    have c1 : w2.cell? ⟨w.heap.size, 1, none⟩ = some (.slice A xs.length m) := S2.out.1.cell 1
    clear hb
    go_wp2_with (fail)
    refine (HM.out _ S2.out.tab).mono ?_
    rintro e w3 ⟨rfl, hb⟩
    have S3 := Lib.hid (S2.out.next hb)
    have c0 : w3.cell? ⟨w.heap.size, 0, none⟩ = some (.bool i) := S3.out.1.cell 0
    have c1 : w3.cell? ⟨w.heap.size, 1, none⟩ = some (.slice A xs.length m) := S3.out.1.cell 1
    clear hb
    go_wp2_with (fail)
    go_ret
    exact ⟨rfl, S3.out.2.1⟩

set_option maxRecDepth 100000 in
set_option maxHeartbeats 4000000 in
theorem giveBack_roll (i : Bool) (xs : List Entry) (A : Option Addr) (m : Nat) (k c f Z : ByteArray) (a : Nat) (now n : Int) (hx : xs.length ≤ 60) (hc : c.size ≤ 1000) (hnow : -4611686018427387904 ≤ now ∧ now ≤ 4611686018427387904) (hn : -2147483648 ≤ n ∧ n ≤ 2147483647) (w : World) (hT : Tab w A xs)
    (hM : ∀ (W : World), Tab W A xs → Calls Try.prog 33 #[.agg #[.bool i, .slice A xs.length m], .string k, .string c, .int .u32 (a : Int), .int .i64 now] W fun r w' => r = .returned (.tuple #[.string Z, .int .i64 0]) ∧ Below W.heap.size W w')
    (b1 : Bool) (e1 : Int) (hV1 : ∀ (W : World), Tab W A xs → Calls Try.prog 35 #[.agg #[.bool i, .slice A xs.length m], .agg #[.string k, .string ⟨#[]⟩], .string c, .string Z, .int .u32 (a : Int), .int .i64 (now + n)] W fun r w' => r = .returned (.tuple #[.bool b1, .int .i64 e1]) ∧ Below W.heap.size W w')
    (hcase : (n < -300 ∧ b1 = false ∧ e1 = 10) ∨ (3600 < n ∧ b1 = false ∧ e1 = 10) ∨ (-300 ≤ n ∧ n ≤ 3600 ∧ 1800 < n ∧ b1 = true ∧ e1 = 0) ∨ (-300 ≤ n ∧ n ≤ 3600 ∧ ¬ 1800 < n ∧ b1 = false ∧ e1 = 0)) (hf : f.size ≠ 16) (hfm : f.size ≤ maxLen) :
    Calls Try.prog 8 #[.agg #[.bool i, .slice A xs.length m], .string k, .string c, .string f, .int .u32 (a : Int), .int .i64 now, .int .i32 n] w fun e w' => e = .returned (.bool true) ∧ Below w.heap.size w w' := by
  have hbig : xs.length ≤ 9223372036854775807 := by omega
  have S0 := Lib.hid (SI.start i A xs.length m hT)
  have hS := fun W => small_any i xs A m W hbig
  simp only [if_neg (show ¬ 60 < xs.length by omega)] at hS
  have HS := Lib.hid hS
  have h1 : ¬ (1000 : Int) < (c.size : Int) := by omega
  have h2 : ¬ 4611686018427387904 < now := by omega
  have h3 : ¬ now < -4611686018427387904 := by omega
  have s3 : -2147483648 ≤ n := by omega
  have s4 : n ≤ 2147483647 := by omega
  have s1 : -9223372036854775808 ≤ now + n := by omega
  have s2 : now + n ≤ 9223372036854775807 := by omega
  have HM := Lib.hid hM
  have HV1 := Lib.hid hV1
  clear hS hM hV1 hx hc hnow hn hT hbig
  have HR := Lib.hid (fun W => Roll_no k ⟨#[]⟩ f hfm hf W)
  have h16 : ((f.size : Int) != 16) = true := by simp only [bne_iff_ne, ne_eq]; omega
  unfold maxLen at hfm
  clear hf
  have hn9 : ¬ n < -300 ∨ n < -300 := by omega
  clear hn9
  rcases hcase with ⟨g1, rfl, rfl⟩ | ⟨g1, rfl, rfl⟩ | ⟨g1, g2, g3, rfl, rfl⟩ | ⟨g1, g2, g3, rfl, rfl⟩
  · have g1' : ¬ (-300 : Int) ≤ n := by omega
    clear g1
    go_enter Try.func8, Try.ntmps8
    go_wp2_with (fail)
    with_reducible refine (lives12 _).mono ?_
    rintro e w1 ⟨rfl, hb⟩
    have S1 := Lib.hid (S0.out.next hb)
    have c0 : w1.cell? ⟨w.heap.size, 0, none⟩ = some (.bool i) := S1.out.1.cell 0
    have c1 : w1.cell? ⟨w.heap.size, 1, none⟩ = some (.slice A xs.length m) := S1.out.1.cell 1
    clear hb
    go_wp2_with (fail)
    with_reducible refine (HS.out _).mono ?_
    rintro e w2 ⟨rfl, hb⟩
    have S2 := Lib.hid (S1.out.next hb)
    have c0 : w2.cell? ⟨w.heap.size, 0, none⟩ = some (.bool i) := S2.out.1.cell 0
    have c1 : w2.cell? ⟨w.heap.size, 1, none⟩ = some (.slice A xs.length m) := S2.out.1.cell 1
    clear hb
    go_wp2_with (fail)
    with_reducible refine ((HM).out _ S2.out.tab).mono ?_
    rintro e w3 ⟨rfl, hb⟩
    have S3 := Lib.hid (S2.out.next hb)
    have c0 : w3.cell? ⟨w.heap.size, 0, none⟩ = some (.bool i) := S3.out.1.cell 0
    have c1 : w3.cell? ⟨w.heap.size, 1, none⟩ = some (.slice A xs.length m) := S3.out.1.cell 1
    clear hb
    go_wp2_with (fail)
    with_reducible refine ((HV1).out _ S3.out.tab).mono ?_
    rintro e w4 ⟨rfl, hb⟩
    have S4 := Lib.hid (S3.out.next hb)
    have c0 : w4.cell? ⟨w.heap.size, 0, none⟩ = some (.bool i) := S4.out.1.cell 0
    have c1 : w4.cell? ⟨w.heap.size, 1, none⟩ = some (.slice A xs.length m) := S4.out.1.cell 1
    clear hb
    go_wp2_with (fail)
    with_reducible refine (HR.out _).mono ?_
    rintro e w5 ⟨rfl, hb⟩
    have S5 := Lib.hid (S4.out.next hb)
    have c0 : w5.cell? ⟨w.heap.size, 0, none⟩ = some (.bool i) := S5.out.1.cell 0
    have c1 : w5.cell? ⟨w.heap.size, 1, none⟩ = some (.slice A xs.length m) := S5.out.1.cell 1
    clear hb
    go_wp2_with (fail)
    go_ret
    exact ⟨rfl, (S5.out.alloc _).2.1⟩
  · have g0 : (-300 : Int) ≤ n := by omega
    have g1' : ¬ n ≤ (3600 : Int) := by omega
    clear g1
    go_enter Try.func8, Try.ntmps8
    go_wp2_with (fail)
    with_reducible refine (lives12 _).mono ?_
    rintro e w1 ⟨rfl, hb⟩
    have S1 := Lib.hid (S0.out.next hb)
    have c0 : w1.cell? ⟨w.heap.size, 0, none⟩ = some (.bool i) := S1.out.1.cell 0
    have c1 : w1.cell? ⟨w.heap.size, 1, none⟩ = some (.slice A xs.length m) := S1.out.1.cell 1
    clear hb
    go_wp2_with (fail)
    with_reducible refine (HS.out _).mono ?_
    rintro e w2 ⟨rfl, hb⟩
    have S2 := Lib.hid (S1.out.next hb)
    have c0 : w2.cell? ⟨w.heap.size, 0, none⟩ = some (.bool i) := S2.out.1.cell 0
    have c1 : w2.cell? ⟨w.heap.size, 1, none⟩ = some (.slice A xs.length m) := S2.out.1.cell 1
    clear hb
    go_wp2_with (fail)
    with_reducible refine ((HM).out _ S2.out.tab).mono ?_
    rintro e w3 ⟨rfl, hb⟩
    have S3 := Lib.hid (S2.out.next hb)
    have c0 : w3.cell? ⟨w.heap.size, 0, none⟩ = some (.bool i) := S3.out.1.cell 0
    have c1 : w3.cell? ⟨w.heap.size, 1, none⟩ = some (.slice A xs.length m) := S3.out.1.cell 1
    clear hb
    go_wp2_with (fail)
    with_reducible refine ((HV1).out _ S3.out.tab).mono ?_
    rintro e w4 ⟨rfl, hb⟩
    have S4 := Lib.hid (S3.out.next hb)
    have c0 : w4.cell? ⟨w.heap.size, 0, none⟩ = some (.bool i) := S4.out.1.cell 0
    have c1 : w4.cell? ⟨w.heap.size, 1, none⟩ = some (.slice A xs.length m) := S4.out.1.cell 1
    clear hb
    go_wp2_with (fail)
    with_reducible refine (HR.out _).mono ?_
    rintro e w5 ⟨rfl, hb⟩
    have S5 := Lib.hid (S4.out.next hb)
    have c0 : w5.cell? ⟨w.heap.size, 0, none⟩ = some (.bool i) := S5.out.1.cell 0
    have c1 : w5.cell? ⟨w.heap.size, 1, none⟩ = some (.slice A xs.length m) := S5.out.1.cell 1
    clear hb
    go_wp2_with (fail)
    go_ret
    exact ⟨rfl, (S5.out.alloc _).2.1⟩
  · go_enter Try.func8, Try.ntmps8
    go_wp2_with (fail)
    with_reducible refine (lives12 _).mono ?_
    rintro e w1 ⟨rfl, hb⟩
    have S1 := Lib.hid (S0.out.next hb)
    have c0 : w1.cell? ⟨w.heap.size, 0, none⟩ = some (.bool i) := S1.out.1.cell 0
    have c1 : w1.cell? ⟨w.heap.size, 1, none⟩ = some (.slice A xs.length m) := S1.out.1.cell 1
    clear hb
    go_wp2_with (fail)
    with_reducible refine (HS.out _).mono ?_
    rintro e w2 ⟨rfl, hb⟩
    have S2 := Lib.hid (S1.out.next hb)
    have c0 : w2.cell? ⟨w.heap.size, 0, none⟩ = some (.bool i) := S2.out.1.cell 0
    have c1 : w2.cell? ⟨w.heap.size, 1, none⟩ = some (.slice A xs.length m) := S2.out.1.cell 1
    clear hb
    go_wp2_with (fail)
    with_reducible refine ((HM).out _ S2.out.tab).mono ?_
    rintro e w3 ⟨rfl, hb⟩
    have S3 := Lib.hid (S2.out.next hb)
    have c0 : w3.cell? ⟨w.heap.size, 0, none⟩ = some (.bool i) := S3.out.1.cell 0
    have c1 : w3.cell? ⟨w.heap.size, 1, none⟩ = some (.slice A xs.length m) := S3.out.1.cell 1
    clear hb
    go_wp2_with (fail)
    with_reducible refine ((HV1).out _ S3.out.tab).mono ?_
    rintro e w4 ⟨rfl, hb⟩
    have S4 := Lib.hid (S3.out.next hb)
    have c0 : w4.cell? ⟨w.heap.size, 0, none⟩ = some (.bool i) := S4.out.1.cell 0
    have c1 : w4.cell? ⟨w.heap.size, 1, none⟩ = some (.slice A xs.length m) := S4.out.1.cell 1
    clear hb
    go_wp2_with (fail)
    with_reducible refine (HR.out _).mono ?_
    rintro e w5 ⟨rfl, hb⟩
    have S5 := Lib.hid (S4.out.next hb)
    have c0 : w5.cell? ⟨w.heap.size, 0, none⟩ = some (.bool i) := S5.out.1.cell 0
    have c1 : w5.cell? ⟨w.heap.size, 1, none⟩ = some (.slice A xs.length m) := S5.out.1.cell 1
    clear hb
    go_wp2_with (fail)
    go_ret
    exact ⟨rfl, (S5.out.alloc _).2.1⟩
  · go_enter Try.func8, Try.ntmps8
    go_wp2_with (fail)
    with_reducible refine (lives12 _).mono ?_
    rintro e w1 ⟨rfl, hb⟩
    have S1 := Lib.hid (S0.out.next hb)
    have c0 : w1.cell? ⟨w.heap.size, 0, none⟩ = some (.bool i) := S1.out.1.cell 0
    have c1 : w1.cell? ⟨w.heap.size, 1, none⟩ = some (.slice A xs.length m) := S1.out.1.cell 1
    clear hb
    go_wp2_with (fail)
    with_reducible refine (HS.out _).mono ?_
    rintro e w2 ⟨rfl, hb⟩
    have S2 := Lib.hid (S1.out.next hb)
    have c0 : w2.cell? ⟨w.heap.size, 0, none⟩ = some (.bool i) := S2.out.1.cell 0
    have c1 : w2.cell? ⟨w.heap.size, 1, none⟩ = some (.slice A xs.length m) := S2.out.1.cell 1
    clear hb
    go_wp2_with (fail)
    with_reducible refine ((HM).out _ S2.out.tab).mono ?_
    rintro e w3 ⟨rfl, hb⟩
    have S3 := Lib.hid (S2.out.next hb)
    have c0 : w3.cell? ⟨w.heap.size, 0, none⟩ = some (.bool i) := S3.out.1.cell 0
    have c1 : w3.cell? ⟨w.heap.size, 1, none⟩ = some (.slice A xs.length m) := S3.out.1.cell 1
    clear hb
    go_wp2_with (fail)
    with_reducible refine ((HV1).out _ S3.out.tab).mono ?_
    rintro e w4 ⟨rfl, hb⟩
    have S4 := Lib.hid (S3.out.next hb)
    have c0 : w4.cell? ⟨w.heap.size, 0, none⟩ = some (.bool i) := S4.out.1.cell 0
    have c1 : w4.cell? ⟨w.heap.size, 1, none⟩ = some (.slice A xs.length m) := S4.out.1.cell 1
    clear hb
    go_wp2_with (fail)
    with_reducible refine (HR.out _).mono ?_
    rintro e w5 ⟨rfl, hb⟩
    have S5 := Lib.hid (S4.out.next hb)
    have c0 : w5.cell? ⟨w.heap.size, 0, none⟩ = some (.bool i) := S5.out.1.cell 0
    have c1 : w5.cell? ⟨w.heap.size, 1, none⟩ = some (.slice A xs.length m) := S5.out.1.cell 1
    clear hb
    go_wp2_with (fail)
    go_ret
    exact ⟨rfl, (S5.out.alloc _).2.1⟩

end Go.Proofs.Ytcphcgkbjlgkiaa
