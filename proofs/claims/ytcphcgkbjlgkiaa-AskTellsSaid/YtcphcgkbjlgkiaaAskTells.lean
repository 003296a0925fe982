/- The law AskTells, walked. -/
import Derived.Test.YtcphcgkbjlgkiaaAskLives
import Derived.Test.YtcphcgkbjlgkiaaRef11A
import Derived.Test.YtcphcgkbjlgkiaaKeyedChk
namespace Go.Proofs.Ytcphcgkbjlgkiaa
open Go.RowKit Go.Lib

/-- The two boxes that the law makes, and the tables, as they lie in W. -/
def SE (w : World) (hc ec : Array Value) (A : Option Addr) (xs : List Entry) (B : Option Addr) (os : List Opt) (W : World) : Prop :=
  Blk W w.heap.size 27 hc ∧ Blk W (w.heap.size + 1) 43 ec ∧ Below w.heap.size w W ∧ Tab W A xs ∧ OTab W B os
section
variable {w W W' : World} {hc ec : Array Value} {A B : Option Addr} {xs : List Entry} {os : List Opt}
theorem SE.next (h : SE w hc ec A xs B os W) (hb : Below W.heap.size W W') : SE w hc ec A xs B os W' :=
  ⟨h.1.below hb h.1.lt, h.2.1.below hb h.2.1.lt, h.2.2.1.trans (hb.mono h.2.2.1.size), h.2.2.2.1.below hb, h.2.2.2.2.below hb⟩
theorem SE.start (w : World) (hc ec : Array Value) (hT : Tab w A xs) (hO : OTab w B os) : SE w hc ec A xs B os ((w.alloc (.cells hc 27)).alloc (.cells ec 43)) := by
  have hb : Below w.heap.size w ((w.alloc (.cells hc 27)).alloc (.cells ec 43)) := ((Below.refl _ _).alloc (Nat.le_refl _) _).alloc (by simp) _
  refine ⟨(Blk.new w _ _).alloc _, ?_, hb, hT.below hb, hO.below hb⟩
  have := Blk.new (w.alloc (.cells hc 27)) 43 ec
  simpa using this
theorem SE.tab (h : SE w hc ec A xs B os W) : Tab W A xs := h.2.2.2.1
theorem SE.otab (h : SE w hc ec A xs B os W) : OTab W B os := h.2.2.2.2
end

set_option maxRecDepth 100000 in
set_option maxHeartbeats 2000000 in
theorem askTells_out (i : Bool) (xs : List Entry) (A : Option Addr) (m : Nat) (k : ByteArray) (a : Nat) (sent : ByteArray) (enf th : Bool) (sz hi ve fl : Int) (B : Option Addr) (os : List Opt) (m2 : Nat) (w : World) (hT : Tab w A xs) (hO : OTab w B os) (hbig : xs.length ≤ 9223372036854775807) (h : 60 < xs.length ∨ (xs.length ≤ 60 ∧ 60 < os.length)) :
    Calls Try.prog 4 #[.agg #[.bool i, .slice A xs.length m], .string k, .int .u32 (a : Int), .string sent, .bool enf, .agg #[.bool th, .int .u16 sz, .int .u8 hi, .int .u8 ve, .int .u16 fl, .slice B os.length m2]] w fun e w' => e = .returned (.bool true) ∧ Below w.heap.size w w' := by
  have S0 := Lib.hid (SE.start w #[.bool i, .slice A xs.length m] #[.bool th, .int .u16 sz, .int .u8 hi, .int .u8 ve, .int .u16 fl, .slice B os.length m2] hT hO)
  have hS := fun W => small_any i xs A m W hbig
  have hcase : ∃ v : Int, Hid (∀ W, Calls Try.prog 20 #[.agg #[.bool i, .slice A xs.length m]] W fun e w' => e = .returned (.int .i64 v) ∧ Below W.heap.size W w') ∧
      (v = 0 ∨ (v = 1 ∧ (60 : Int) < (os.length : Int))) := by
    refine ⟨_, Lib.hid hS, ?_⟩
    rcases h with h | ⟨h, h2⟩
    · rw [if_pos h]; exact .inl rfl
    · rw [if_neg (by omega)]; exact .inr ⟨rfl, by omega⟩
  obtain ⟨v, HS, hcase⟩ := hcase
  clear hS h hT hbig hO
  rcases hcase with rfl | ⟨rfl, h1⟩
  all_goals
    go_enter Try.func4, Try.ntmps4
    go_wp2_with (fail)
    with_reducible refine (HS.out _).mono ?_
    rintro e w1 ⟨rfl, hb⟩
    have S1 := Lib.hid (S0.out.next hb)
    have c0 : w1.cell? ⟨w.heap.size, 0, none⟩ = some (.bool i) := S1.out.1.cell 0
    have c1 : w1.cell? ⟨w.heap.size, 1, none⟩ = some (.slice A xs.length m) := S1.out.1.cell 1
    have d0 : w1.cell? ⟨w.heap.size + 1, 0, none⟩ = some (.bool th) := S1.out.2.1.cell 0
    have d1 : w1.cell? ⟨w.heap.size + 1, 1, none⟩ = some (.int .u16 sz) := S1.out.2.1.cell 1
    have d2 : w1.cell? ⟨w.heap.size + 1, 2, none⟩ = some (.int .u8 hi) := S1.out.2.1.cell 2
    have d3 : w1.cell? ⟨w.heap.size + 1, 3, none⟩ = some (.int .u8 ve) := S1.out.2.1.cell 3
    have d4 : w1.cell? ⟨w.heap.size + 1, 4, none⟩ = some (.int .u16 fl) := S1.out.2.1.cell 4
    have d5 : w1.cell? ⟨w.heap.size + 1, 5, none⟩ = some (.slice B os.length m2) := S1.out.2.1.cell 5
    clear hb
    go_wp2_with (fail)
    with_reducible refine (lives11 _).mono ?_
    rintro e w2 ⟨rfl, hb⟩
    have S2 := Lib.hid (S1.out.next hb)
    clear c0 c1 d0 d1 d2 d3 d4 d5
    have c0 : w2.cell? ⟨w.heap.size, 0, none⟩ = some (.bool i) := S2.out.1.cell 0
    have c1 : w2.cell? ⟨w.heap.size, 1, none⟩ = some (.slice A xs.length m) := S2.out.1.cell 1
    have d0 : w2.cell? ⟨w.heap.size + 1, 0, none⟩ = some (.bool th) := S2.out.2.1.cell 0
    have d1 : w2.cell? ⟨w.heap.size + 1, 1, none⟩ = some (.int .u16 sz) := S2.out.2.1.cell 1
    have d2 : w2.cell? ⟨w.heap.size + 1, 2, none⟩ = some (.int .u8 hi) := S2.out.2.1.cell 2
    have d3 : w2.cell? ⟨w.heap.size + 1, 3, none⟩ = some (.int .u8 ve) := S2.out.2.1.cell 3
    have d4 : w2.cell? ⟨w.heap.size + 1, 4, none⟩ = some (.int .u16 fl) := S2.out.2.1.cell 4
    have d5 : w2.cell? ⟨w.heap.size + 1, 5, none⟩ = some (.slice B os.length m2) := S2.out.2.1.cell 5
    clear hb
    go_wp2_with (fail)
    go_ret
    exact ⟨rfl, S2.out.2.2.1⟩

set_option maxRecDepth 100000 in
set_option maxHeartbeats 4000000 in
theorem askTells_main (i : Bool) (xs : List Entry) (A : Option Addr) (m : Nat) (k : ByteArray) (a : Nat) (sent : ByteArray) (enf th : Bool) (sz hi ve fl : Int) (B : Option Addr) (os : List Opt) (m2 : Nat) (w : World) (hT : Tab w A xs) (hO : OTab w B os) (hx : xs.length ≤ 60) (ho : os.length ≤ 60)
    (X : ByteArray) (e1 : Int) (Y : ByteArray) (e2 : Int) (t : ByteArray)
    (hC : ∀ W, Tab W A xs → Calls Try.prog 22 #[.agg #[.bool i, .slice A xs.length m], .string k, .int .u32 (a : Int)] W fun e w' => e = .returned (.tuple #[.string X, .int .i64 e1]) ∧ Below W.heap.size W w')
    (hrC : ∀ W, Tab W A xs → Calls Try.prog 23 #[.agg #[.bool i, .slice A xs.length m], .string k, .int .u32 (a : Int)] W fun e w' => e = .returned (.tuple #[.string X, .int .i64 e1]) ∧ Below W.heap.size W w')
    (hA : ∀ W, OTab W B os → Calls Try.prog 24 #[.string sent, .bool enf, .agg #[.bool th, .int .u16 sz, .int .u8 hi, .int .u8 ve, .int .u16 fl, .slice B os.length m2]] W fun e w' => e = .returned (.tuple #[.string Y, .int .i64 e2]) ∧ Below W.heap.size W w')
    (hrA : ∀ W, OTab W B os → Calls Try.prog 25 #[.string sent, .bool enf, .agg #[.bool th, .int .u16 sz, .int .u8 hi, .int .u8 ve, .int .u16 fl, .slice B os.length m2]] W fun e w' => e = .returned (.tuple #[.string Y, .int .i64 e2]) ∧ Below W.heap.size W w')
    (hTx : ∀ W, Calls Try.prog 26 #[.int .u32 (a : Int)] W fun e w' => e = .returned (.string t) ∧ Below W.heap.size W w')
    (hrTx : ∀ W, Calls Try.prog 27 #[.int .u32 (a : Int)] W fun e w' => e = .returned (.string t) ∧ Below W.heap.size W w') :
    Calls Try.prog 4 #[.agg #[.bool i, .slice A xs.length m], .string k, .int .u32 (a : Int), .string sent, .bool enf, .agg #[.bool th, .int .u16 sz, .int .u8 hi, .int .u8 ve, .int .u16 fl, .slice B os.length m2]] w fun e w' => e = .returned (.bool true) ∧ Below w.heap.size w w' := by
  have hbig : xs.length ≤ 9223372036854775807 := by omega
  have S0 := Lib.hid (SE.start w #[.bool i, .slice A xs.length m] #[.bool th, .int .u16 sz, .int .u8 hi, .int .u8 ve, .int .u16 fl, .slice B os.length m2] hT hO)
  have hS := fun W => small_any i xs A m W hbig
  simp only [if_neg (show ¬ 60 < xs.length by omega)] at hS
  have HS := Lib.hid hS
  have h1 : ¬ (60 : Int) < (os.length : Int) := by omega
  have HC := Lib.hid hC
  have HrC := Lib.hid hrC
  have HA := Lib.hid hA
  have HrA := Lib.hid hrA
  have HTx := Lib.hid hTx
  have HrTx := Lib.hid hrTx
  clear hS hT hbig hx ho hO hC hrC hA hrA hTx hrTx
  · go_enter Try.func4, Try.ntmps4
    go_wp2_with (fail)
    with_reducible refine (HS.out _).mono ?_
    rintro e w1 ⟨rfl, hb⟩
    have S1 := Lib.hid (S0.out.next hb)
    have c0 : w1.cell? ⟨w.heap.size, 0, none⟩ = some (.bool i) := S1.out.1.cell 0
    have c1 : w1.cell? ⟨w.heap.size, 1, none⟩ = some (.slice A xs.length m) := S1.out.1.cell 1
    have d0 : w1.cell? ⟨w.heap.size + 1, 0, none⟩ = some (.bool th) := S1.out.2.1.cell 0
    have d1 : w1.cell? ⟨w.heap.size + 1, 1, none⟩ = some (.int .u16 sz) := S1.out.2.1.cell 1
    have d2 : w1.cell? ⟨w.heap.size + 1, 2, none⟩ = some (.int .u8 hi) := S1.out.2.1.cell 2
    have d3 : w1.cell? ⟨w.heap.size + 1, 3, none⟩ = some (.int .u8 ve) := S1.out.2.1.cell 3
    have d4 : w1.cell? ⟨w.heap.size + 1, 4, none⟩ = some (.int .u16 fl) := S1.out.2.1.cell 4
    have d5 : w1.cell? ⟨w.heap.size + 1, 5, none⟩ = some (.slice B os.length m2) := S1.out.2.1.cell 5
    clear hb
    go_wp2_with (fail)
    with_reducible refine (HC.out _ S1.out.tab).mono ?_
    rintro e w2 ⟨rfl, hb⟩
    have S2 := Lib.hid (S1.out.next hb)
    clear c0 c1 d0 d1 d2 d3 d4 d5
    have c0 : w2.cell? ⟨w.heap.size, 0, none⟩ = some (.bool i) := S2.out.1.cell 0
    have c1 : w2.cell? ⟨w.heap.size, 1, none⟩ = some (.slice A xs.length m) := S2.out.1.cell 1
    have d0 : w2.cell? ⟨w.heap.size + 1, 0, none⟩ = some (.bool th) := S2.out.2.1.cell 0
    have d1 : w2.cell? ⟨w.heap.size + 1, 1, none⟩ = some (.int .u16 sz) := S2.out.2.1.cell 1
    have d2 : w2.cell? ⟨w.heap.size + 1, 2, none⟩ = some (.int .u8 hi) := S2.out.2.1.cell 2
    have d3 : w2.cell? ⟨w.heap.size + 1, 3, none⟩ = some (.int .u8 ve) := S2.out.2.1.cell 3
    have d4 : w2.cell? ⟨w.heap.size + 1, 4, none⟩ = some (.int .u16 fl) := S2.out.2.1.cell 4
    have d5 : w2.cell? ⟨w.heap.size + 1, 5, none⟩ = some (.slice B os.length m2) := S2.out.2.1.cell 5
    clear hb
    go_wp2_with (fail)
    with_reducible refine (HrC.out _ S2.out.tab).mono ?_
    rintro e w3 ⟨rfl, hb⟩
    have S3 := Lib.hid (S2.out.next hb)
    clear c0 c1 d0 d1 d2 d3 d4 d5
    have c0 : w3.cell? ⟨w.heap.size, 0, none⟩ = some (.bool i) := S3.out.1.cell 0
    have c1 : w3.cell? ⟨w.heap.size, 1, none⟩ = some (.slice A xs.length m) := S3.out.1.cell 1
    have d0 : w3.cell? ⟨w.heap.size + 1, 0, none⟩ = some (.bool th) := S3.out.2.1.cell 0
    have d1 : w3.cell? ⟨w.heap.size + 1, 1, none⟩ = some (.int .u16 sz) := S3.out.2.1.cell 1
    have d2 : w3.cell? ⟨w.heap.size + 1, 2, none⟩ = some (.int .u8 hi) := S3.out.2.1.cell 2
    have d3 : w3.cell? ⟨w.heap.size + 1, 3, none⟩ = some (.int .u8 ve) := S3.out.2.1.cell 3
    have d4 : w3.cell? ⟨w.heap.size + 1, 4, none⟩ = some (.int .u16 fl) := S3.out.2.1.cell 4
    have d5 : w3.cell? ⟨w.heap.size + 1, 5, none⟩ = some (.slice B os.length m2) := S3.out.2.1.cell 5
    clear hb
    go_wp2_with (fail)
    with_reducible refine (HA.out _ S3.out.otab).mono ?_
    rintro e w4 ⟨rfl, hb⟩
    have S4 := Lib.hid (S3.out.next hb)
    clear c0 c1 d0 d1 d2 d3 d4 d5
    have c0 : w4.cell? ⟨w.heap.size, 0, none⟩ = some (.bool i) := S4.out.1.cell 0
    have c1 : w4.cell? ⟨w.heap.size, 1, none⟩ = some (.slice A xs.length m) := S4.out.1.cell 1
    have d0 : w4.cell? ⟨w.heap.size + 1, 0, none⟩ = some (.bool th) := S4.out.2.1.cell 0
    have d1 : w4.cell? ⟨w.heap.size + 1, 1, none⟩ = some (.int .u16 sz) := S4.out.2.1.cell 1
    have d2 : w4.cell? ⟨w.heap.size + 1, 2, none⟩ = some (.int .u8 hi) := S4.out.2.1.cell 2
    have d3 : w4.cell? ⟨w.heap.size + 1, 3, none⟩ = some (.int .u8 ve) := S4.out.2.1.cell 3
    have d4 : w4.cell? ⟨w.heap.size + 1, 4, none⟩ = some (.int .u16 fl) := S4.out.2.1.cell 4
    have d5 : w4.cell? ⟨w.heap.size + 1, 5, none⟩ = some (.slice B os.length m2) := S4.out.2.1.cell 5
    clear hb
    go_wp2_with (fail)
    with_reducible refine (HrA.out _ S4.out.otab).mono ?_
    rintro e w5 ⟨rfl, hb⟩
    have S5 := Lib.hid (S4.out.next hb)
    clear c0 c1 d0 d1 d2 d3 d4 d5
    have c0 : w5.cell? ⟨w.heap.size, 0, none⟩ = some (.bool i) := S5.out.1.cell 0
    have c1 : w5.cell? ⟨w.heap.size, 1, none⟩ = some (.slice A xs.length m) := S5.out.1.cell 1
    have d0 : w5.cell? ⟨w.heap.size + 1, 0, none⟩ = some (.bool th) := S5.out.2.1.cell 0
    have d1 : w5.cell? ⟨w.heap.size + 1, 1, none⟩ = some (.int .u16 sz) := S5.out.2.1.cell 1
    have d2 : w5.cell? ⟨w.heap.size + 1, 2, none⟩ = some (.int .u8 hi) := S5.out.2.1.cell 2
    have d3 : w5.cell? ⟨w.heap.size + 1, 3, none⟩ = some (.int .u8 ve) := S5.out.2.1.cell 3
    have d4 : w5.cell? ⟨w.heap.size + 1, 4, none⟩ = some (.int .u16 fl) := S5.out.2.1.cell 4
    have d5 : w5.cell? ⟨w.heap.size + 1, 5, none⟩ = some (.slice B os.length m2) := S5.out.2.1.cell 5
    clear hb
    go_wp2_with (fail)
    with_reducible refine (lives11 _).mono ?_
    rintro e w6 ⟨rfl, hb⟩
    have S6 := Lib.hid (S5.out.next hb)
    clear c0 c1 d0 d1 d2 d3 d4 d5
    have c0 : w6.cell? ⟨w.heap.size, 0, none⟩ = some (.bool i) := S6.out.1.cell 0
    have c1 : w6.cell? ⟨w.heap.size, 1, none⟩ = some (.slice A xs.length m) := S6.out.1.cell 1
    have d0 : w6.cell? ⟨w.heap.size + 1, 0, none⟩ = some (.bool th) := S6.out.2.1.cell 0
    have d1 : w6.cell? ⟨w.heap.size + 1, 1, none⟩ = some (.int .u16 sz) := S6.out.2.1.cell 1
    have d2 : w6.cell? ⟨w.heap.size + 1, 2, none⟩ = some (.int .u8 hi) := S6.out.2.1.cell 2
    have d3 : w6.cell? ⟨w.heap.size + 1, 3, none⟩ = some (.int .u8 ve) := S6.out.2.1.cell 3
    have d4 : w6.cell? ⟨w.heap.size + 1, 4, none⟩ = some (.int .u16 fl) := S6.out.2.1.cell 4
    have d5 : w6.cell? ⟨w.heap.size + 1, 5, none⟩ = some (.slice B os.length m2) := S6.out.2.1.cell 5
    clear hb
    go_wp2_with (fail)
    with_reducible refine (HTx.out _).mono ?_
    rintro e w7 ⟨rfl, hb⟩
    have S7 := Lib.hid (S6.out.next hb)
    clear c0 c1 d0 d1 d2 d3 d4 d5
    have c0 : w7.cell? ⟨w.heap.size, 0, none⟩ = some (.bool i) := S7.out.1.cell 0
    have c1 : w7.cell? ⟨w.heap.size, 1, none⟩ = some (.slice A xs.length m) := S7.out.1.cell 1
    have d0 : w7.cell? ⟨w.heap.size + 1, 0, none⟩ = some (.bool th) := S7.out.2.1.cell 0
    have d1 : w7.cell? ⟨w.heap.size + 1, 1, none⟩ = some (.int .u16 sz) := S7.out.2.1.cell 1
    have d2 : w7.cell? ⟨w.heap.size + 1, 2, none⟩ = some (.int .u8 hi) := S7.out.2.1.cell 2
    have d3 : w7.cell? ⟨w.heap.size + 1, 3, none⟩ = some (.int .u8 ve) := S7.out.2.1.cell 3
    have d4 : w7.cell? ⟨w.heap.size + 1, 4, none⟩ = some (.int .u16 fl) := S7.out.2.1.cell 4
    have d5 : w7.cell? ⟨w.heap.size + 1, 5, none⟩ = some (.slice B os.length m2) := S7.out.2.1.cell 5
    clear hb
    go_wp2_with (fail)
    with_reducible refine (HrTx.out _).mono ?_
    rintro e w8 ⟨rfl, hb⟩
    have S8 := Lib.hid (S7.out.next hb)
    clear c0 c1 d0 d1 d2 d3 d4 d5
    have c0 : w8.cell? ⟨w.heap.size, 0, none⟩ = some (.bool i) := S8.out.1.cell 0
    have c1 : w8.cell? ⟨w.heap.size, 1, none⟩ = some (.slice A xs.length m) := S8.out.1.cell 1
    have d0 : w8.cell? ⟨w.heap.size + 1, 0, none⟩ = some (.bool th) := S8.out.2.1.cell 0
    have d1 : w8.cell? ⟨w.heap.size + 1, 1, none⟩ = some (.int .u16 sz) := S8.out.2.1.cell 1
    have d2 : w8.cell? ⟨w.heap.size + 1, 2, none⟩ = some (.int .u8 hi) := S8.out.2.1.cell 2
    have d3 : w8.cell? ⟨w.heap.size + 1, 3, none⟩ = some (.int .u8 ve) := S8.out.2.1.cell 3
    have d4 : w8.cell? ⟨w.heap.size + 1, 4, none⟩ = some (.int .u16 fl) := S8.out.2.1.cell 4
    have d5 : w8.cell? ⟨w.heap.size + 1, 5, none⟩ = some (.slice B os.length m2) := S8.out.2.1.cell 5
    clear hb
    go_wp2_with (fail)
    go_ret
    exact ⟨rfl, S8.out.2.2.1⟩

theorem askTells_law (w : World) (i : Bool) (A : Option Addr) (xs : List Entry) (m : Nat) (k : ByteArray) (a : Int) (sent : ByteArray) (enf th : Bool) (sz hi ve fl : Int) (B : Option Addr) (os : List Opt) (m2 : Nat) (hT : Tab w A xs) (hl : xs.length ≤ m) (hm : m ≤ maxLen) (hk : k.size ≤ maxLen)
    (ha : 0 ≤ a ∧ a ≤ 4294967295) (_hsent : sent.size ≤ maxLen) (hO : OTab w B os) (hl2 : os.length ≤ m2) (hm2 : m2 ≤ maxLen) :
    Calls Try.prog 4 #[.agg #[.bool i, .slice A xs.length m], .string k, .int .u32 a, .string sent, .bool enf, .agg #[.bool th, .int .u16 sz, .int .u8 hi, .int .u8 ve, .int .u16 fl, .slice B os.length m2]] w fun e w' => e = .returned (.bool true) ∧ Below w.heap.size w w' := by
  obtain ⟨a, rfl⟩ := Int.eq_ofNat_of_zero_le ha.1
  have hbig : xs.length ≤ 9223372036854775807 := by unfold maxLen at hm; omega
  have hbig2 : os.length ≤ 9223372036854775807 := by unfold maxLen at hm2; omega
  have hkb : k.size ≤ 9223372036854775807 := by unfold maxLen at hk; omega
  by_cases h1 : 60 < xs.length
  · exact askTells_out i xs A m k a sent enf th sz hi ve fl B os m2 w hT hO hbig (.inl h1)
  by_cases h2 : 60 < os.length
  · exact askTells_out i xs A m k a sent enf th sz hi ve fl B os m2 w hT hO hbig (.inr ⟨by omega, h2⟩)
  exact askTells_main i xs A m k a sent enf th sz hi ve fl B os m2 w hT hO (by omega) (by omega) _ _ _ _ _ (fun W hT => Client_any i xs A m k a (by omega) hkb W hT hbig) (fun W hT => rClient_any i xs A m k a (by omega) hkb W hT hbig)
    (fun W hT => Accept_any sent enf th sz hi ve fl B os m2 W hT hbig2) (fun W hT => rAccept_any sent enf th sz hi ve fl B os m2 W hT hbig2) (fun W => aText_any a (by omega) W) (fun W => raText_any a (by omega) W)
end Go.Proofs.Ytcphcgkbjlgkiaa
