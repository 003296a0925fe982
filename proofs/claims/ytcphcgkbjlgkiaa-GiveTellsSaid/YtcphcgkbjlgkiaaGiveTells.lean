/- The law GiveTells, walked. -/
import Derived.Test.YtcphcgkbjlgkiaaGiveSO
import Derived.Test.YtcphcgkbjlgkiaaRef12
namespace Go.Proofs.Ytcphcgkbjlgkiaa
open Go.RowKit Go.Lib

theorem eq_secrets (a b : ByteArray) (w : World) : (binOp .eql 59 (.agg #[.string a, .string b]) (.agg #[.string a, .string b])).run Try.prog w = .ok (.bool true) w := by
  have hS : Try.prog.underlying 59 = some (.struct (Try.prog.fieldsOf 59)) := by kernel_rfl
  have hp : Try.prog.stoodInHeld 59 = false := by kernel_rfl
  have u1 := Try.underlying9
  have a1 := Try.isAgg9
  have z1 := Try.sizeOf9
  rw [run_eql_struct, show (10000 : Nat) = 9999 + 1 from rfl, run_equalIn_agg w 9999 _ _ _ hS hp]
  simp only [Program.fieldsOf, Try.underlying59]
  go_simp

set_option maxRecDepth 100000 in
set_option maxHeartbeats 2000000 in
theorem giveTells_out (i : Bool) (xs : List Entry) (A : Option Addr) (m : Nat) (sn sw c s : ByteArray) (a : Nat) (now : Int) (hbig : xs.length ≤ 9223372036854775807) (hc : c.size ≤ 9223372036854775807) (w : World) (hT : Tab w A xs)
    (h : 60 < xs.length ∨ (xs.length ≤ 60 ∧ 1000 < c.size)) :
    Calls Try.prog 7 #[.agg #[.bool i, .slice A xs.length m], .agg #[.string sn, .string sw], .string c, .string s, .int .u32 (a : Int), .int .i64 now] w fun e w' => e = .returned (.bool true) ∧ Below w.heap.size w w' := by
  have S0 := Lib.hid (SO.start i A xs.length m sn sw hT)
  have hS := fun W => small_any i xs A m W hbig
  have hcase : ∃ v : Int, Hid (∀ W, Calls Try.prog 20 #[.agg #[.bool i, .slice A xs.length m]] W fun e w' => e = .returned (.int .i64 v) ∧ Below W.heap.size W w') ∧
      (v = 0 ∨ (v = 1 ∧ (1000 : Int) < (c.size : Int))) := by
    refine ⟨_, Lib.hid hS, ?_⟩
    rcases h with h | ⟨h, h2⟩
    · rw [if_pos h]; exact .inl rfl
    · rw [if_neg (by omega)]; exact .inr ⟨rfl, by omega⟩
  obtain ⟨v, HS, hcase⟩ := hcase
  clear hS h hT hbig
  rcases hcase with rfl | ⟨rfl, h1⟩
  all_goals
    go_enter Try.func7, Try.ntmps7
    go_wp2_with (fail)
    with_reducible refine (HS.out _).mono ?_
    rintro e w1 ⟨rfl, hb⟩
    have S1 := Lib.hid (S0.out.next hb)
    have c0 : w1.cell? ⟨w.heap.size, 0, none⟩ = some (.bool i) := S1.out.1.cell 0
    have c1 : w1.cell? ⟨w.heap.size, 1, none⟩ = some (.slice A xs.length m) := S1.out.1.cell 1
    have d0 : w1.cell? ⟨w.heap.size + 1, 0, none⟩ = some (.string sn) := S1.out.2.1.cell 0
    have d1 : w1.cell? ⟨w.heap.size + 1, 1, none⟩ = some (.string sw) := S1.out.2.1.cell 1
    clear hb
    go_wp2_with (fail)
    with_reducible refine (lives12 _).mono ?_
    rintro e w2 ⟨rfl, hb⟩
    have S2 := Lib.hid (S1.out.next hb)
    have c0 : w2.cell? ⟨w.heap.size, 0, none⟩ = some (.bool i) := S2.out.1.cell 0
    have c1 : w2.cell? ⟨w.heap.size, 1, none⟩ = some (.slice A xs.length m) := S2.out.1.cell 1
    have d0 : w2.cell? ⟨w.heap.size + 1, 0, none⟩ = some (.string sn) := S2.out.2.1.cell 0
    have d1 : w2.cell? ⟨w.heap.size + 1, 1, none⟩ = some (.string sw) := S2.out.2.1.cell 1
    clear hb
    go_wp2_with (fail)
    go_ret
    exact ⟨rfl, S2.out.2.2.1⟩

set_option maxRecDepth 100000 in
set_option maxHeartbeats 4000000 in
theorem giveTells_main (i : Bool) (xs : List Entry) (A : Option Addr) (m : Nat) (sn sw c s : ByteArray) (a : Nat) (now : Int) (hx : xs.length ≤ 60) (hc : c.size ≤ 1000) (w : World) (hT : Tab w A xs)
    (M : ByteArray) (e1 : Int) (b2 : Bool) (e2 : Int) (n1 n2 : ByteArray) (e3 : Int) (t : ByteArray)
    (hM : ∀ W, Tab W A xs → Calls Try.prog 33 #[.agg #[.bool i, .slice A xs.length m], .string sn, .string c, .int .u32 (a : Int), .int .i64 now] W fun e w' => e = .returned (.tuple #[.string M, .int .i64 e1]) ∧ Below W.heap.size W w')
    (hrM : ∀ W, Tab W A xs → Calls Try.prog 34 #[.agg #[.bool i, .slice A xs.length m], .string sn, .string c, .int .u32 (a : Int), .int .i64 now] W fun e w' => e = .returned (.tuple #[.string M, .int .i64 e1]) ∧ Below W.heap.size W w')
    (hV : ∀ W, Tab W A xs → Calls Try.prog 35 #[.agg #[.bool i, .slice A xs.length m], .agg #[.string sn, .string sw], .string c, .string s, .int .u32 (a : Int), .int .i64 now] W fun e w' => e = .returned (.tuple #[.bool b2, .int .i64 e2]) ∧ Below W.heap.size W w')
    (hrV : ∀ W, Tab W A xs → Calls Try.prog 36 #[.agg #[.bool i, .slice A xs.length m], .agg #[.string sn, .string sw], .string c, .string s, .int .u32 (a : Int), .int .i64 now] W fun e w' => e = .returned (.tuple #[.bool b2, .int .i64 e2]) ∧ Below W.heap.size W w')
    (hR : ∀ W, Calls Try.prog 37 #[.agg #[.string sn, .string sw], .string c] W fun e w' => e = .returned (.tuple #[.agg #[.string n1, .string n2], .int .i64 e3]) ∧ Below W.heap.size W w')
    (hrR : ∀ W, Calls Try.prog 38 #[.agg #[.string sn, .string sw], .string c] W fun e w' => e = .returned (.tuple #[.agg #[.string n1, .string n2], .int .i64 e3]) ∧ Below W.heap.size W w')
    (hTx : ∀ W, Calls Try.prog 39 #[.string c, .string s, .int .u32 (a : Int)] W fun e w' => e = .returned (.string t) ∧ Below W.heap.size W w')
    (hrTx : ∀ W, Calls Try.prog 40 #[.string c, .string s, .int .u32 (a : Int)] W fun e w' => e = .returned (.string t) ∧ Below W.heap.size W w') :
    Calls Try.prog 7 #[.agg #[.bool i, .slice A xs.length m], .agg #[.string sn, .string sw], .string c, .string s, .int .u32 (a : Int), .int .i64 now] w fun e w' => e = .returned (.bool true) ∧ Below w.heap.size w w' := by
  have hbig : xs.length ≤ 9223372036854775807 := by omega
  have S0 := Lib.hid (SO.start i A xs.length m sn sw hT)
  have hS := fun W => small_any i xs A m W hbig
  simp only [if_neg (show ¬ 60 < xs.length by omega)] at hS
  have HS := Lib.hid hS
  have h1 : ¬ (1000 : Int) < (c.size : Int) := by omega
  have HM := Lib.hid hM
  have HrM := Lib.hid hrM
  have HV := Lib.hid hV
  have HrV := Lib.hid hrV
  have HR := Lib.hid hR
  have HrR := Lib.hid hrR
  have HTx := Lib.hid hTx
  have HrTx := Lib.hid hrTx
  have HE := Lib.hid (eq_secrets n1 n2)
  clear hS hT hbig hx hc hM hrM hV hrV hR hrR hTx hrTx
  · go_enter Try.func7, Try.ntmps7
    go_wp2_with (fail)
    with_reducible refine (HS.out _).mono ?_
    rintro e w1 ⟨rfl, hb⟩
    have S1 := Lib.hid (S0.out.next hb)
    have c0 : w1.cell? ⟨w.heap.size, 0, none⟩ = some (.bool i) := S1.out.1.cell 0
    have c1 : w1.cell? ⟨w.heap.size, 1, none⟩ = some (.slice A xs.length m) := S1.out.1.cell 1
    have d0 : w1.cell? ⟨w.heap.size + 1, 0, none⟩ = some (.string sn) := S1.out.2.1.cell 0
    have d1 : w1.cell? ⟨w.heap.size + 1, 1, none⟩ = some (.string sw) := S1.out.2.1.cell 1
    clear hb
    go_wp2_with (fail)
    with_reducible refine (HM.out _ S1.out.tab).mono ?_
    rintro e w2 ⟨rfl, hb⟩
    have S2 := Lib.hid (S1.out.next hb)
    have c0 : w2.cell? ⟨w.heap.size, 0, none⟩ = some (.bool i) := S2.out.1.cell 0
    have c1 : w2.cell? ⟨w.heap.size, 1, none⟩ = some (.slice A xs.length m) := S2.out.1.cell 1
    have d0 : w2.cell? ⟨w.heap.size + 1, 0, none⟩ = some (.string sn) := S2.out.2.1.cell 0
    have d1 : w2.cell? ⟨w.heap.size + 1, 1, none⟩ = some (.string sw) := S2.out.2.1.cell 1
    clear hb
    go_wp2_with (fail)
    with_reducible refine (HrM.out _ S2.out.tab).mono ?_
    rintro e w3 ⟨rfl, hb⟩
    have S3 := Lib.hid (S2.out.next hb)
    have c0 : w3.cell? ⟨w.heap.size, 0, none⟩ = some (.bool i) := S3.out.1.cell 0
    have c1 : w3.cell? ⟨w.heap.size, 1, none⟩ = some (.slice A xs.length m) := S3.out.1.cell 1
    have d0 : w3.cell? ⟨w.heap.size + 1, 0, none⟩ = some (.string sn) := S3.out.2.1.cell 0
    have d1 : w3.cell? ⟨w.heap.size + 1, 1, none⟩ = some (.string sw) := S3.out.2.1.cell 1
    clear hb
    go_wp2_with (fail)
    with_reducible refine (HV.out _ S3.out.tab).mono ?_
    rintro e w4 ⟨rfl, hb⟩
    have S4 := Lib.hid (S3.out.next hb)
    have c0 : w4.cell? ⟨w.heap.size, 0, none⟩ = some (.bool i) := S4.out.1.cell 0
    have c1 : w4.cell? ⟨w.heap.size, 1, none⟩ = some (.slice A xs.length m) := S4.out.1.cell 1
    have d0 : w4.cell? ⟨w.heap.size + 1, 0, none⟩ = some (.string sn) := S4.out.2.1.cell 0
    have d1 : w4.cell? ⟨w.heap.size + 1, 1, none⟩ = some (.string sw) := S4.out.2.1.cell 1
    clear hb
    go_wp2_with (fail)
    with_reducible refine (HrV.out _ S4.out.tab).mono ?_
    rintro e w5 ⟨rfl, hb⟩
    have S5 := Lib.hid (S4.out.next hb)
    have c0 : w5.cell? ⟨w.heap.size, 0, none⟩ = some (.bool i) := S5.out.1.cell 0
    have c1 : w5.cell? ⟨w.heap.size, 1, none⟩ = some (.slice A xs.length m) := S5.out.1.cell 1
    have d0 : w5.cell? ⟨w.heap.size + 1, 0, none⟩ = some (.string sn) := S5.out.2.1.cell 0
    have d1 : w5.cell? ⟨w.heap.size + 1, 1, none⟩ = some (.string sw) := S5.out.2.1.cell 1
    clear hb
    go_wp2_with (fail)
    with_reducible refine (HR.out _).mono ?_
    rintro e w6 ⟨rfl, hb⟩
    have S6 := Lib.hid (S5.out.next hb)
    have l6a : w.heap.size < w6.heap.size := S6.out.1.lt
    have l6b : w.heap.size + 1 < w6.heap.size := S6.out.2.1.lt
    have c0 : w6.cell? ⟨w.heap.size, 0, none⟩ = some (.bool i) := S6.out.1.cell 0
    have c1 : w6.cell? ⟨w.heap.size, 1, none⟩ = some (.slice A xs.length m) := S6.out.1.cell 1
    have d0 : w6.cell? ⟨w.heap.size + 1, 0, none⟩ = some (.string sn) := S6.out.2.1.cell 0
    have d1 : w6.cell? ⟨w.heap.size + 1, 1, none⟩ = some (.string sw) := S6.out.2.1.cell 1
    clear hb
    go_wp2_with (fail)
    have S6a := Lib.hid (S6.out.next ((Below.refl _ _).alloc (Nat.le_refl _) (.cells #[.string n1, .string n2] 59)))
    have Z6n := Lib.hid (Blk.new w6 59 #[.string n1, .string n2])
    with_reducible refine (HrR.out _).mono ?_
    rintro e w7 ⟨rfl, hb⟩
    have S7 := Lib.hid (S6a.out.next hb)
    have Z6x7 := Lib.hid (Z6n.out.below hb Z6n.out.lt)
    have l7a : w.heap.size < w7.heap.size := S7.out.1.lt
    have l7b : w.heap.size + 1 < w7.heap.size := S7.out.2.1.lt
    have l7c : w6.heap.size < w7.heap.size := Z6x7.out.lt
    have c0 : w7.cell? ⟨w.heap.size, 0, none⟩ = some (.bool i) := S7.out.1.cell 0
    have c1 : w7.cell? ⟨w.heap.size, 1, none⟩ = some (.slice A xs.length m) := S7.out.1.cell 1
    have d0 : w7.cell? ⟨w.heap.size + 1, 0, none⟩ = some (.string sn) := S7.out.2.1.cell 0
    have d1 : w7.cell? ⟨w.heap.size + 1, 1, none⟩ = some (.string sw) := S7.out.2.1.cell 1
    have p60 : w7.cell? ⟨w6.heap.size, 0, none⟩ = some (.string n1) := Z6x7.out.cell 0
    have p61 : w7.cell? ⟨w6.heap.size, 1, none⟩ = some (.string n2) := Z6x7.out.cell 1
    clear hb
    go_wp2_with (fail)
    have S7a := Lib.hid (S7.out.next ((Below.refl _ _).alloc (Nat.le_refl _) (.cells #[.string n1, .string n2] 59)))
    have Z7n := Lib.hid (Blk.new w7 59 #[.string n1, .string n2])
    have Z6x7a := Lib.hid (Z6x7.out.alloc (.cells #[.string n1, .string n2] 59))
    with_reducible refine (lives12 _).mono ?_
    rintro e w8 ⟨rfl, hb⟩
    have S8 := Lib.hid (S7a.out.next hb)
    have Z6x8 := Lib.hid (Z6x7a.out.below hb Z6x7a.out.lt)
    have Z7x8 := Lib.hid (Z7n.out.below hb Z7n.out.lt)
    have c0 : w8.cell? ⟨w.heap.size, 0, none⟩ = some (.bool i) := S8.out.1.cell 0
    have c1 : w8.cell? ⟨w.heap.size, 1, none⟩ = some (.slice A xs.length m) := S8.out.1.cell 1
    have d0 : w8.cell? ⟨w.heap.size + 1, 0, none⟩ = some (.string sn) := S8.out.2.1.cell 0
    have d1 : w8.cell? ⟨w.heap.size + 1, 1, none⟩ = some (.string sw) := S8.out.2.1.cell 1
    have p60 : w8.cell? ⟨w6.heap.size, 0, none⟩ = some (.string n1) := Z6x8.out.cell 0
    have p61 : w8.cell? ⟨w6.heap.size, 1, none⟩ = some (.string n2) := Z6x8.out.cell 1
    have p70 : w8.cell? ⟨w7.heap.size, 0, none⟩ = some (.string n1) := Z7x8.out.cell 0
    have p71 : w8.cell? ⟨w7.heap.size, 1, none⟩ = some (.string n2) := Z7x8.out.cell 1
    clear hb
    go_wp2_with (fail)
    with_reducible refine (HTx.out _).mono ?_
    rintro e w9 ⟨rfl, hb⟩
    have S9 := Lib.hid (S8.out.next hb)
    have Z6x9 := Lib.hid (Z6x8.out.below hb Z6x8.out.lt)
    have Z7x9 := Lib.hid (Z7x8.out.below hb Z7x8.out.lt)
    have c0 : w9.cell? ⟨w.heap.size, 0, none⟩ = some (.bool i) := S9.out.1.cell 0
    have c1 : w9.cell? ⟨w.heap.size, 1, none⟩ = some (.slice A xs.length m) := S9.out.1.cell 1
    have d0 : w9.cell? ⟨w.heap.size + 1, 0, none⟩ = some (.string sn) := S9.out.2.1.cell 0
    have d1 : w9.cell? ⟨w.heap.size + 1, 1, none⟩ = some (.string sw) := S9.out.2.1.cell 1
    have p60 : w9.cell? ⟨w6.heap.size, 0, none⟩ = some (.string n1) := Z6x9.out.cell 0
    have p61 : w9.cell? ⟨w6.heap.size, 1, none⟩ = some (.string n2) := Z6x9.out.cell 1
    have p70 : w9.cell? ⟨w7.heap.size, 0, none⟩ = some (.string n1) := Z7x9.out.cell 0
    have p71 : w9.cell? ⟨w7.heap.size, 1, none⟩ = some (.string n2) := Z7x9.out.cell 1
    clear hb
    go_wp2_with (fail)
    with_reducible refine (HrTx.out _).mono ?_
    rintro e w10 ⟨rfl, hb⟩
    have S10 := Lib.hid (S9.out.next hb)
    have Z6x10 := Lib.hid (Z6x9.out.below hb Z6x9.out.lt)
    have Z7x10 := Lib.hid (Z7x9.out.below hb Z7x9.out.lt)
    have c0 : w10.cell? ⟨w.heap.size, 0, none⟩ = some (.bool i) := S10.out.1.cell 0
    have c1 : w10.cell? ⟨w.heap.size, 1, none⟩ = some (.slice A xs.length m) := S10.out.1.cell 1
    have d0 : w10.cell? ⟨w.heap.size + 1, 0, none⟩ = some (.string sn) := S10.out.2.1.cell 0
    have d1 : w10.cell? ⟨w.heap.size + 1, 1, none⟩ = some (.string sw) := S10.out.2.1.cell 1
    have p60 : w10.cell? ⟨w6.heap.size, 0, none⟩ = some (.string n1) := Z6x10.out.cell 0
    have p61 : w10.cell? ⟨w6.heap.size, 1, none⟩ = some (.string n2) := Z6x10.out.cell 1
    have p70 : w10.cell? ⟨w7.heap.size, 0, none⟩ = some (.string n1) := Z7x10.out.cell 0
    have p71 : w10.cell? ⟨w7.heap.size, 1, none⟩ = some (.string n2) := Z7x10.out.cell 1
    clear hb
    have q := HE.out
    go_wp2_with (fail)
    go_ret
    exact ⟨rfl, S10.out.2.2.1⟩

theorem giveTells_law (w : World) (i : Bool) (A : Option Addr) (xs : List Entry) (m : Nat) (sn sw c s : ByteArray) (a now : Int) (hT : Tab w A xs) (hl : xs.length ≤ m) (hm : m ≤ maxLen) (hsn : sn.size ≤ maxLen) (hsw : sw.size ≤ maxLen) (hc : c.size ≤ maxLen) (hs : s.size ≤ maxLen) (ha : 0 ≤ a ∧ a ≤ 4294967295) (_hnow : -9223372036854775808 ≤ now ∧ now ≤ 9223372036854775807) (hsz : s.size ≤ 140737488351232) :
    Calls Try.prog 7 #[.agg #[.bool i, .slice A xs.length m], .agg #[.string sn, .string sw], .string c, .string s, .int .u32 a, .int .i64 now] w fun e w' => e = .returned (.bool true) ∧ Below w.heap.size w w' := by
  obtain ⟨a, rfl⟩ := Int.eq_ofNat_of_zero_le ha.1
  have hbig : xs.length ≤ 9223372036854775807 := by unfold maxLen at hm; omega
  have hcb : c.size ≤ 9223372036854775807 := by unfold maxLen at hc; omega
  have hkb : sn.size ≤ 9223372036854775807 := by unfold maxLen at hsn; omega
  by_cases h1 : 60 < xs.length
  · exact giveTells_out i xs A m sn sw c s a now hbig hcb w hT (.inl h1)
  by_cases h2 : 1000 < c.size
  · exact giveTells_out i xs A m sn sw c s a now hbig hcb w hT (.inr ⟨by omega, h2⟩)
  have hV := fun W hT => Verify_any i xs A m sn sw c s a now hc hs (by omega) hsn hsw W hT hbig
  have hrV := fun W hT => rVerify_any i xs A m sn sw c s a now hc hs (by omega) hsn hsw W hT hbig
  have hTx := fun W => gText_any c s a (by omega) (by omega) W
  have hrTx := fun W => rText_any c s a (by omega) (by omega) W
  obtain ⟨t, ht⟩ : ∃ t : Nat, now % 4294967296 = (t : Int) := ⟨(now % 4294967296).toNat, by omega⟩
  have hMk : ∃ M e1, (∀ W, Tab W A xs → Calls Try.prog 33 #[.agg #[.bool i, .slice A xs.length m], .string sn, .string c, .int .u32 (a : Int), .int .i64 now] W fun e w' => e = .returned (.tuple #[.string M, .int .i64 e1]) ∧ Below W.heap.size W w') ∧
      (∀ W, Tab W A xs → Calls Try.prog 34 #[.agg #[.bool i, .slice A xs.length m], .string sn, .string c, .int .u32 (a : Int), .int .i64 now] W fun e w' => e = .returned (.tuple #[.string M, .int .i64 e1]) ∧ Below W.heap.size W w') := by
    by_cases h8 : c.size = 8
    · exact ⟨_, _, fun W hT => Make_yes i xs A m sn c a now t ht (by omega) hkb h8 W hT hbig, fun W hT => rMake_yes i xs A m sn c a now t ht (by omega) hkb h8 W hT hbig⟩
    · exact ⟨_, _, fun W _ => Make_no i A xs.length m sn c a now h8 hc W, fun W _ => rMake_no i A xs.length m sn c a now h8 hc W⟩
  have hRo : ∃ n1 n2 e3, (∀ W, Calls Try.prog 37 #[.agg #[.string sn, .string sw], .string c] W fun e w' => e = .returned (.tuple #[.agg #[.string n1, .string n2], .int .i64 e3]) ∧ Below W.heap.size W w') ∧
      (∀ W, Calls Try.prog 38 #[.agg #[.string sn, .string sw], .string c] W fun e w' => e = .returned (.tuple #[.agg #[.string n1, .string n2], .int .i64 e3]) ∧ Below W.heap.size W w') := by
    by_cases h16 : c.size = 16
    · exact ⟨_, _, _, fun W => Roll_yes sn sw c h16 W, fun W => rRoll_yes sn sw c h16 W⟩
    · exact ⟨_, _, _, fun W => Roll_no sn sw c hc h16 W, fun W => rRoll_no sn sw c hc h16 W⟩
  obtain ⟨M, e1, hM, hrM⟩ := hMk
  obtain ⟨n1, n2, e3, hR, hrR⟩ := hRo
  exact giveTells_main i xs A m sn sw c s a now (by omega) (by omega) w hT M e1 _ _ n1 n2 e3 _ hM hrM hV hrV hR hrR hTx hrTx
end Go.Proofs.Ytcphcgkbjlgkiaa
