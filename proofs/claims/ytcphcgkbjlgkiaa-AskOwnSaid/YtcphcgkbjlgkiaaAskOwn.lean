/- The law AskOwn, walked. -/
import Derived.Test.YtcphcgkbjlgkiaaAskLives
import Derived.Test.YtcphcgkbjlgkiaaRef11A
import Derived.Test.YtcphcgkbjlgkiaaWith
namespace Go.Proofs.Ytcphcgkbjlgkiaa
open Go.RowKit Go.Lib

/-- The box that the law makes, and the options, as they lie in W. -/
def SB (w : World) (ec : Array Value) (B : Option Addr) (os : List Opt) (W : World) : Prop :=
  Blk W w.heap.size 43 ec ∧ Below w.heap.size w W ∧ OTab W B os
section
variable {w W W' : World} {ec : Array Value} {B : Option Addr} {os : List Opt}
theorem SB.next (h : SB w ec B os W) (hb : Below W.heap.size W W') : SB w ec B os W' :=
  ⟨h.1.below hb h.1.lt, h.2.1.trans (hb.mono h.2.1.size), h.2.2.below hb⟩
theorem SB.alloc (h : SB w ec B os W) (o : Obj) : SB w ec B os (W.alloc o) := h.next ((Below.refl _ _).alloc (Nat.le_refl _) _)
theorem SB.start (w : World) (ec : Array Value) (hO : OTab w B os) : SB w ec B os (w.alloc (.cells ec 43)) :=
  ⟨Blk.new w _ _, (Below.refl _ _).alloc (Nat.le_refl _) _, hO.below ((Below.refl _ _).alloc (Nat.le_refl _) _)⟩
theorem SB.otab (h : SB w ec B os W) : OTab W B os := h.2.2
end


set_option maxRecDepth 100000 in
set_option maxHeartbeats 4000000 in
theorem askOwn_A (sent c s : ByteArray) (enf th : Bool) (sz hi ve fl : Int) (B : Option Addr) (os : List Opt) (m2 : Nat) (w : World) (hO : OTab w B os) (ho : os.length ≤ 60) (hc : c.size ≤ maxLen) (hs : s.size ≤ maxLen) (hr : rightB c s = false)
    (y1 y2 : ByteArray) (n1 n2 : Int) (z : ByteArray)
    (hA : ∀ W, OTab W B os → Calls Try.prog 24 #[.string sent, .bool enf, .agg #[.bool th, .int .u16 sz, .int .u8 hi, .int .u8 ve, .int .u16 fl, .slice B os.length m2]] W fun e w' => e = .returned (.tuple #[.string z, .int .i64 n2]) ∧ Below W.heap.size W w')
    (hK : ∀ W, OTab W B os → Calls Try.prog 29 #[.agg #[.bool th, .int .u16 sz, .int .u8 hi, .int .u8 ve, .int .u16 fl, .slice B os.length m2]] W fun e w' => e = .returned (.tuple #[.string y1, .string y2, .int .i64 n1]) ∧ Below W.heap.size W w')
    (hcase : (n1 != 3) = true ∨ (n1 = 3 ∧ enf = true ∧ n2 = 3 ∧ z = ⟨#[]⟩) ∨ (n1 = 3 ∧ enf = false ∧ n2 = 0 ∧ z = ⟨#[]⟩)) :
    Calls Try.prog 5 #[.string sent, .string c, .string s, .bool enf, .agg #[.bool th, .int .u16 sz, .int .u8 hi, .int .u8 ve, .int .u16 fl, .slice B os.length m2]] w fun e w' => e = .returned (.bool true) ∧ Below w.heap.size w w' := by
  have S0 := Lib.hid (SB.start w #[.bool th, .int .u16 sz, .int .u8 hi, .int .u8 ve, .int .u16 fl, .slice B os.length m2] hO)
  have h1 : ¬ (60 : Int) < (os.length : Int) := by omega
  have HA := Lib.hid hA
  have HK := Lib.hid hK
  have HW := Lib.hid (fun W => With_no th sz hi ve fl B os m2 c s hc hs W hr)
  clear hr hA hK hc hs ho hO
  rcases hcase with hn | ⟨rfl, rfl, rfl, rfl⟩ | ⟨rfl, rfl, rfl, rfl⟩
  all_goals
    go_enter Try.func5, Try.ntmps5
    go_wp2_with (fail)
    with_reducible refine (lives11 _).mono ?_
    rintro e w1 ⟨rfl, hb⟩
    have S1 := Lib.hid ((S0.out).next hb)
    have d0 : w1.cell? ⟨w.heap.size, 0, none⟩ = some (.bool th) := S1.out.1.cell 0
    have d1 : w1.cell? ⟨w.heap.size, 1, none⟩ = some (.int .u16 sz) := S1.out.1.cell 1
    have d2 : w1.cell? ⟨w.heap.size, 2, none⟩ = some (.int .u8 hi) := S1.out.1.cell 2
    have d3 : w1.cell? ⟨w.heap.size, 3, none⟩ = some (.int .u8 ve) := S1.out.1.cell 3
    have d4 : w1.cell? ⟨w.heap.size, 4, none⟩ = some (.int .u16 fl) := S1.out.1.cell 4
    have d5 : w1.cell? ⟨w.heap.size, 5, none⟩ = some (.slice B os.length m2) := S1.out.1.cell 5
    have hl : w.heap.size < w1.heap.size := S1.out.1.lt
    clear hb
    go_wp2_with (fail)
    with_reducible refine (HW.out _).mono ?_
    rintro e w2 ⟨rfl, hb⟩
    have S2 := Lib.hid ((S1.out).next hb)
    clear d0 d1 d2 d3 d4 d5 hl
    have d0 : w2.cell? ⟨w.heap.size, 0, none⟩ = some (.bool th) := S2.out.1.cell 0
    have d1 : w2.cell? ⟨w.heap.size, 1, none⟩ = some (.int .u16 sz) := S2.out.1.cell 1
    have d2 : w2.cell? ⟨w.heap.size, 2, none⟩ = some (.int .u8 hi) := S2.out.1.cell 2
    have d3 : w2.cell? ⟨w.heap.size, 3, none⟩ = some (.int .u8 ve) := S2.out.1.cell 3
    have d4 : w2.cell? ⟨w.heap.size, 4, none⟩ = some (.int .u16 fl) := S2.out.1.cell 4
    have d5 : w2.cell? ⟨w.heap.size, 5, none⟩ = some (.slice B os.length m2) := S2.out.1.cell 5
    have hl : w.heap.size < w2.heap.size := S2.out.1.lt
    clear hb
    go_wp2_with (fail)
    have T2 := Lib.hid (S2.out.alloc (.cells #[.bool false, .int .u16 0, .int .u8 0, .int .u8 0, .int .u16 0, .slice none 0 0] 43))
    with_reducible refine (HK.out _ T2.out.otab).mono ?_
    rintro e w3 ⟨rfl, hb⟩
    have S3 := Lib.hid (T2.out.next hb)
    clear d0 d1 d2 d3 d4 d5 hl
    have d0 : w3.cell? ⟨w.heap.size, 0, none⟩ = some (.bool th) := S3.out.1.cell 0
    have d1 : w3.cell? ⟨w.heap.size, 1, none⟩ = some (.int .u16 sz) := S3.out.1.cell 1
    have d2 : w3.cell? ⟨w.heap.size, 2, none⟩ = some (.int .u8 hi) := S3.out.1.cell 2
    have d3 : w3.cell? ⟨w.heap.size, 3, none⟩ = some (.int .u8 ve) := S3.out.1.cell 3
    have d4 : w3.cell? ⟨w.heap.size, 4, none⟩ = some (.int .u16 fl) := S3.out.1.cell 4
    have d5 : w3.cell? ⟨w.heap.size, 5, none⟩ = some (.slice B os.length m2) := S3.out.1.cell 5
    have hl : w.heap.size < w3.heap.size := S3.out.1.lt
    clear hb
    go_wp2_with (fail)
    with_reducible refine (HA.out _ S3.out.otab).mono ?_
    rintro e w4 ⟨rfl, hb⟩
    have S4 := Lib.hid ((S3.out).next hb)
    clear d0 d1 d2 d3 d4 d5 hl
    have d0 : w4.cell? ⟨w.heap.size, 0, none⟩ = some (.bool th) := S4.out.1.cell 0
    have d1 : w4.cell? ⟨w.heap.size, 1, none⟩ = some (.int .u16 sz) := S4.out.1.cell 1
    have d2 : w4.cell? ⟨w.heap.size, 2, none⟩ = some (.int .u8 hi) := S4.out.1.cell 2
    have d3 : w4.cell? ⟨w.heap.size, 3, none⟩ = some (.int .u8 ve) := S4.out.1.cell 3
    have d4 : w4.cell? ⟨w.heap.size, 4, none⟩ = some (.int .u16 fl) := S4.out.1.cell 4
    have d5 : w4.cell? ⟨w.heap.size, 5, none⟩ = some (.slice B os.length m2) := S4.out.1.cell 5
    have hl : w.heap.size < w4.heap.size := S4.out.1.lt
    clear hb
    go_wp2_with (fail)
    go_ret
    exact ⟨rfl, S4.out.2.1⟩

set_option maxRecDepth 100000 in
set_option maxHeartbeats 4000000 in
theorem askOwn_B (sent c s : ByteArray) (enf th : Bool) (sz hi ve fl : Int) (B : Option Addr) (os : List Opt) (m2 : Nat) (w : World) (hO : OTab w B os) (ho : os.length ≤ 60) (hc : c.size ≤ maxLen) (hs : s.size ≤ maxLen) (hr : rightB c s = true) (hq : (sent.toList == c.toList) = true)
    (y1 y2 : ByteArray) (n1 n2 : Int) (z : ByteArray)
    (hA : ∀ W, OTab W B os → Calls Try.prog 24 #[.string sent, .bool enf, .agg #[.bool th, .int .u16 sz, .int .u8 hi, .int .u8 ve, .int .u16 fl, .slice B os.length m2]] W fun e w' => e = .returned (.tuple #[.string z, .int .i64 n2]) ∧ Below W.heap.size W w')
    (hK : ∀ W, OTab W B os → Calls Try.prog 29 #[.agg #[.bool th, .int .u16 sz, .int .u8 hi, .int .u8 ve, .int .u16 fl, .slice B os.length m2]] W fun e w' => e = .returned (.tuple #[.string y1, .string y2, .int .i64 n1]) ∧ Below W.heap.size W w')
    (hcase : (n1 != 3) = true ∨ (n1 = 3 ∧ enf = true ∧ n2 = 3 ∧ z = ⟨#[]⟩) ∨ (n1 = 3 ∧ enf = false ∧ n2 = 0 ∧ z = ⟨#[]⟩)) :
    Calls Try.prog 5 #[.string sent, .string c, .string s, .bool enf, .agg #[.bool th, .int .u16 sz, .int .u8 hi, .int .u8 ve, .int .u16 fl, .slice B os.length m2]] w fun e w' => e = .returned (.bool true) ∧ Below w.heap.size w w' := by
  have S0 := Lib.hid (SB.start w #[.bool th, .int .u16 sz, .int .u8 hi, .int .u8 ve, .int .u16 fl, .slice B os.length m2] hO)
  have h1 : ¬ (60 : Int) < (os.length : Int) := by omega
  have HA := Lib.hid hA
  have HK := Lib.hid hK
  have HW := Lib.hid (fun W hT => With_yes th sz hi ve fl B os m2 c s hc hs W hT (by omega) hr)
  have hacc : ∀ (t : Bool) (A' : Option Addr) (m' : Nat) (W : World), OTab W A' (withO os c s) → Calls Try.prog 24 #[.string sent, .bool enf, .agg #[.bool t, .int .u16 sz, .int .u8 hi, .int .u8 ve, .int .u16 fl, .slice A' (withO os c s).length m']] W fun e w' => e = .returned (.tuple #[.string s, .int .i64 0]) ∧ Below W.heap.size W w' := by
    intro t A' m' W hT
    have hl : (withO os c s).length ≤ 9223372036854775807 := by
      have : (lefts 10 os).length ≤ os.length := List.length_filter_le _ _
      unfold withO
      rw [List.length_append]
      simp only [List.length_cons, List.length_nil]
      omega
    have := Accept_any sent enf t sz hi ve fl A' _ m' W hT hl
    rw [ckR_with os c s hr, show acR sent enf (c, s, 0) = (s, 0) by
      unfold acR
      rw [if_neg (by simp), if_pos rfl, if_pos (by simpa using (beq_iff_eq.1 hq).symm)]] at this
    exact this
  have HC := Lib.hid hacc
  have hq2 : (sent.toList == c.toList) = true := hq
  clear hr hA hK hc hs ho hO hacc hq
  rcases hcase with hn | ⟨rfl, rfl, rfl, rfl⟩ | ⟨rfl, rfl, rfl, rfl⟩
  all_goals
    go_enter Try.func5, Try.ntmps5
    go_wp2_with (fail)
    with_reducible refine (lives11 _).mono ?_
    rintro e w1 ⟨rfl, hb⟩
    have S1 := Lib.hid ((S0.out).next hb)
    have d0 : w1.cell? ⟨w.heap.size, 0, none⟩ = some (.bool th) := S1.out.1.cell 0
    have d1 : w1.cell? ⟨w.heap.size, 1, none⟩ = some (.int .u16 sz) := S1.out.1.cell 1
    have d2 : w1.cell? ⟨w.heap.size, 2, none⟩ = some (.int .u8 hi) := S1.out.1.cell 2
    have d3 : w1.cell? ⟨w.heap.size, 3, none⟩ = some (.int .u8 ve) := S1.out.1.cell 3
    have d4 : w1.cell? ⟨w.heap.size, 4, none⟩ = some (.int .u16 fl) := S1.out.1.cell 4
    have d5 : w1.cell? ⟨w.heap.size, 5, none⟩ = some (.slice B os.length m2) := S1.out.1.cell 5
    have hl : w.heap.size < w1.heap.size := S1.out.1.lt
    clear hb
    go_wp2_with (fail)
    with_reducible refine (HW.out _ S1.out.otab).mono ?_
    rintro e w2 ⟨A', m', rfl, hO', hb⟩
    have S2 := Lib.hid ((S1.out).next hb)
    clear d0 d1 d2 d3 d4 d5 hl
    have d0 : w2.cell? ⟨w.heap.size, 0, none⟩ = some (.bool th) := S2.out.1.cell 0
    have d1 : w2.cell? ⟨w.heap.size, 1, none⟩ = some (.int .u16 sz) := S2.out.1.cell 1
    have d2 : w2.cell? ⟨w.heap.size, 2, none⟩ = some (.int .u8 hi) := S2.out.1.cell 2
    have d3 : w2.cell? ⟨w.heap.size, 3, none⟩ = some (.int .u8 ve) := S2.out.1.cell 3
    have d4 : w2.cell? ⟨w.heap.size, 4, none⟩ = some (.int .u16 fl) := S2.out.1.cell 4
    have d5 : w2.cell? ⟨w.heap.size, 5, none⟩ = some (.slice B os.length m2) := S2.out.1.cell 5
    have hl : w.heap.size < w2.heap.size := S2.out.1.lt
    clear hb
    have hO2 := Lib.hid (hO'.below ((Below.refl _ _).alloc (Nat.le_refl _) (.cells #[.bool true, .int .u16 sz, .int .u8 hi, .int .u8 ve, .int .u16 fl, .slice A' (withO os c s).length m'] 43)))
    clear hO'
    go_wp2_with (fail)
    have T2 := Lib.hid (S2.out.alloc (.cells #[.bool true, .int .u16 sz, .int .u8 hi, .int .u8 ve, .int .u16 fl, .slice A' (withO os c s).length m'] 43))
    with_reducible refine (HC.out true A' m' _ hO2.out).mono ?_
    rintro e w3 ⟨rfl, hb⟩
    have S3 := Lib.hid (T2.out.next hb)
    clear d0 d1 d2 d3 d4 d5 hl
    have d0 : w3.cell? ⟨w.heap.size, 0, none⟩ = some (.bool th) := S3.out.1.cell 0
    have d1 : w3.cell? ⟨w.heap.size, 1, none⟩ = some (.int .u16 sz) := S3.out.1.cell 1
    have d2 : w3.cell? ⟨w.heap.size, 2, none⟩ = some (.int .u8 hi) := S3.out.1.cell 2
    have d3 : w3.cell? ⟨w.heap.size, 3, none⟩ = some (.int .u8 ve) := S3.out.1.cell 3
    have d4 : w3.cell? ⟨w.heap.size, 4, none⟩ = some (.int .u16 fl) := S3.out.1.cell 4
    have d5 : w3.cell? ⟨w.heap.size, 5, none⟩ = some (.slice B os.length m2) := S3.out.1.cell 5
    have hl : w.heap.size < w3.heap.size := S3.out.1.lt
    clear hb
    go_wp2_with (fail)
    with_reducible refine (HK.out _ S3.out.otab).mono ?_
    rintro e w4 ⟨rfl, hb⟩
    have S4 := Lib.hid ((S3.out).next hb)
    clear d0 d1 d2 d3 d4 d5 hl
    have d0 : w4.cell? ⟨w.heap.size, 0, none⟩ = some (.bool th) := S4.out.1.cell 0
    have d1 : w4.cell? ⟨w.heap.size, 1, none⟩ = some (.int .u16 sz) := S4.out.1.cell 1
    have d2 : w4.cell? ⟨w.heap.size, 2, none⟩ = some (.int .u8 hi) := S4.out.1.cell 2
    have d3 : w4.cell? ⟨w.heap.size, 3, none⟩ = some (.int .u8 ve) := S4.out.1.cell 3
    have d4 : w4.cell? ⟨w.heap.size, 4, none⟩ = some (.int .u16 fl) := S4.out.1.cell 4
    have d5 : w4.cell? ⟨w.heap.size, 5, none⟩ = some (.slice B os.length m2) := S4.out.1.cell 5
    have hl : w.heap.size < w4.heap.size := S4.out.1.lt
    clear hb
    go_wp2_with (fail)
    with_reducible refine (HA.out _ S4.out.otab).mono ?_
    rintro e w5 ⟨rfl, hb⟩
    have S5 := Lib.hid ((S4.out).next hb)
    clear d0 d1 d2 d3 d4 d5 hl
    have d0 : w5.cell? ⟨w.heap.size, 0, none⟩ = some (.bool th) := S5.out.1.cell 0
    have d1 : w5.cell? ⟨w.heap.size, 1, none⟩ = some (.int .u16 sz) := S5.out.1.cell 1
    have d2 : w5.cell? ⟨w.heap.size, 2, none⟩ = some (.int .u8 hi) := S5.out.1.cell 2
    have d3 : w5.cell? ⟨w.heap.size, 3, none⟩ = some (.int .u8 ve) := S5.out.1.cell 3
    have d4 : w5.cell? ⟨w.heap.size, 4, none⟩ = some (.int .u16 fl) := S5.out.1.cell 4
    have d5 : w5.cell? ⟨w.heap.size, 5, none⟩ = some (.slice B os.length m2) := S5.out.1.cell 5
    have hl : w.heap.size < w5.heap.size := S5.out.1.lt
    clear hb
    go_wp2_with (fail)
    go_ret
    exact ⟨rfl, S5.out.2.1⟩

set_option maxRecDepth 100000 in
set_option maxHeartbeats 4000000 in
theorem askOwn_C (sent c s : ByteArray) (enf th : Bool) (sz hi ve fl : Int) (B : Option Addr) (os : List Opt) (m2 : Nat) (w : World) (hO : OTab w B os) (ho : os.length ≤ 60) (hc : c.size ≤ maxLen) (hs : s.size ≤ maxLen) (hr : rightB c s = true) (hq : (sent.toList == c.toList) = false)
    (y1 y2 : ByteArray) (n1 n2 : Int) (z : ByteArray)
    (hA : ∀ W, OTab W B os → Calls Try.prog 24 #[.string sent, .bool enf, .agg #[.bool th, .int .u16 sz, .int .u8 hi, .int .u8 ve, .int .u16 fl, .slice B os.length m2]] W fun e w' => e = .returned (.tuple #[.string z, .int .i64 n2]) ∧ Below W.heap.size W w')
    (hK : ∀ W, OTab W B os → Calls Try.prog 29 #[.agg #[.bool th, .int .u16 sz, .int .u8 hi, .int .u8 ve, .int .u16 fl, .slice B os.length m2]] W fun e w' => e = .returned (.tuple #[.string y1, .string y2, .int .i64 n1]) ∧ Below W.heap.size W w')
    (hcase : (n1 != 3) = true ∨ (n1 = 3 ∧ enf = true ∧ n2 = 3 ∧ z = ⟨#[]⟩) ∨ (n1 = 3 ∧ enf = false ∧ n2 = 0 ∧ z = ⟨#[]⟩)) :
    Calls Try.prog 5 #[.string sent, .string c, .string s, .bool enf, .agg #[.bool th, .int .u16 sz, .int .u8 hi, .int .u8 ve, .int .u16 fl, .slice B os.length m2]] w fun e w' => e = .returned (.bool true) ∧ Below w.heap.size w w' := by
  have S0 := Lib.hid (SB.start w #[.bool th, .int .u16 sz, .int .u8 hi, .int .u8 ve, .int .u16 fl, .slice B os.length m2] hO)
  have h1 : ¬ (60 : Int) < (os.length : Int) := by omega
  have HA := Lib.hid hA
  have HK := Lib.hid hK
  have HW := Lib.hid (fun W hT => With_yes th sz hi ve fl B os m2 c s hc hs W hT (by omega) hr)
  have hacc : ∀ (t : Bool) (A' : Option Addr) (m' : Nat) (W : World), OTab W A' (withO os c s) → Calls Try.prog 24 #[.string sent, .bool enf, .agg #[.bool t, .int .u16 sz, .int .u8 hi, .int .u8 ve, .int .u16 fl, .slice A' (withO os c s).length m']] W fun e w' => e = .returned (.tuple #[.string ⟨#[]⟩, .int .i64 6]) ∧ Below W.heap.size W w' := by
    intro t A' m' W hT
    have hl : (withO os c s).length ≤ 9223372036854775807 := by
      have : (lefts 10 os).length ≤ os.length := List.length_filter_le _ _
      unfold withO
      rw [List.length_append]
      simp only [List.length_cons, List.length_nil]
      omega
    have := Accept_any sent enf t sz hi ve fl A' _ m' W hT hl
    rw [ckR_with os c s hr, show acR sent enf (c, s, 0) = (⟨#[]⟩, 6) by
      unfold acR
      rw [if_neg (by simp), if_pos rfl, if_neg (by intro h; rw [beq_iff_eq.1 h] at hq; simp at hq)]] at this
    exact this
  have HC := Lib.hid hacc
  have hq2 : (sent.toList == c.toList) = false := hq
  clear hr hA hK hc hs ho hO hacc hq
  rcases hcase with hn | ⟨rfl, rfl, rfl, rfl⟩ | ⟨rfl, rfl, rfl, rfl⟩
  all_goals
    go_enter Try.func5, Try.ntmps5
    go_wp2_with (fail)
    with_reducible refine (lives11 _).mono ?_
    rintro e w1 ⟨rfl, hb⟩
    have S1 := Lib.hid ((S0.out).next hb)
    have d0 : w1.cell? ⟨w.heap.size, 0, none⟩ = some (.bool th) := S1.out.1.cell 0
    have d1 : w1.cell? ⟨w.heap.size, 1, none⟩ = some (.int .u16 sz) := S1.out.1.cell 1
    have d2 : w1.cell? ⟨w.heap.size, 2, none⟩ = some (.int .u8 hi) := S1.out.1.cell 2
    have d3 : w1.cell? ⟨w.heap.size, 3, none⟩ = some (.int .u8 ve) := S1.out.1.cell 3
    have d4 : w1.cell? ⟨w.heap.size, 4, none⟩ = some (.int .u16 fl) := S1.out.1.cell 4
    have d5 : w1.cell? ⟨w.heap.size, 5, none⟩ = some (.slice B os.length m2) := S1.out.1.cell 5
    have hl : w.heap.size < w1.heap.size := S1.out.1.lt
    clear hb
    go_wp2_with (fail)
    with_reducible refine (HW.out _ S1.out.otab).mono ?_
    rintro e w2 ⟨A', m', rfl, hO', hb⟩
    have S2 := Lib.hid ((S1.out).next hb)
    clear d0 d1 d2 d3 d4 d5 hl
    have d0 : w2.cell? ⟨w.heap.size, 0, none⟩ = some (.bool th) := S2.out.1.cell 0
    have d1 : w2.cell? ⟨w.heap.size, 1, none⟩ = some (.int .u16 sz) := S2.out.1.cell 1
    have d2 : w2.cell? ⟨w.heap.size, 2, none⟩ = some (.int .u8 hi) := S2.out.1.cell 2
    have d3 : w2.cell? ⟨w.heap.size, 3, none⟩ = some (.int .u8 ve) := S2.out.1.cell 3
    have d4 : w2.cell? ⟨w.heap.size, 4, none⟩ = some (.int .u16 fl) := S2.out.1.cell 4
    have d5 : w2.cell? ⟨w.heap.size, 5, none⟩ = some (.slice B os.length m2) := S2.out.1.cell 5
    have hl : w.heap.size < w2.heap.size := S2.out.1.lt
    clear hb
    have hO2 := Lib.hid (hO'.below ((Below.refl _ _).alloc (Nat.le_refl _) (.cells #[.bool true, .int .u16 sz, .int .u8 hi, .int .u8 ve, .int .u16 fl, .slice A' (withO os c s).length m'] 43)))
    clear hO'
    go_wp2_with (fail)
    have T2 := Lib.hid (S2.out.alloc (.cells #[.bool true, .int .u16 sz, .int .u8 hi, .int .u8 ve, .int .u16 fl, .slice A' (withO os c s).length m'] 43))
    with_reducible refine (HC.out true A' m' _ hO2.out).mono ?_
    rintro e w3 ⟨rfl, hb⟩
    have S3 := Lib.hid (T2.out.next hb)
    clear d0 d1 d2 d3 d4 d5 hl
    have d0 : w3.cell? ⟨w.heap.size, 0, none⟩ = some (.bool th) := S3.out.1.cell 0
    have d1 : w3.cell? ⟨w.heap.size, 1, none⟩ = some (.int .u16 sz) := S3.out.1.cell 1
    have d2 : w3.cell? ⟨w.heap.size, 2, none⟩ = some (.int .u8 hi) := S3.out.1.cell 2
    have d3 : w3.cell? ⟨w.heap.size, 3, none⟩ = some (.int .u8 ve) := S3.out.1.cell 3
    have d4 : w3.cell? ⟨w.heap.size, 4, none⟩ = some (.int .u16 fl) := S3.out.1.cell 4
    have d5 : w3.cell? ⟨w.heap.size, 5, none⟩ = some (.slice B os.length m2) := S3.out.1.cell 5
    have hl : w.heap.size < w3.heap.size := S3.out.1.lt
    clear hb
    go_wp2_with (fail)
    with_reducible refine (HK.out _ S3.out.otab).mono ?_
    rintro e w4 ⟨rfl, hb⟩
    have S4 := Lib.hid ((S3.out).next hb)
    clear d0 d1 d2 d3 d4 d5 hl
    have d0 : w4.cell? ⟨w.heap.size, 0, none⟩ = some (.bool th) := S4.out.1.cell 0
    have d1 : w4.cell? ⟨w.heap.size, 1, none⟩ = some (.int .u16 sz) := S4.out.1.cell 1
    have d2 : w4.cell? ⟨w.heap.size, 2, none⟩ = some (.int .u8 hi) := S4.out.1.cell 2
    have d3 : w4.cell? ⟨w.heap.size, 3, none⟩ = some (.int .u8 ve) := S4.out.1.cell 3
    have d4 : w4.cell? ⟨w.heap.size, 4, none⟩ = some (.int .u16 fl) := S4.out.1.cell 4
    have d5 : w4.cell? ⟨w.heap.size, 5, none⟩ = some (.slice B os.length m2) := S4.out.1.cell 5
    have hl : w.heap.size < w4.heap.size := S4.out.1.lt
    clear hb
    go_wp2_with (fail)
    with_reducible refine (HA.out _ S4.out.otab).mono ?_
    rintro e w5 ⟨rfl, hb⟩
    have S5 := Lib.hid ((S4.out).next hb)
    clear d0 d1 d2 d3 d4 d5 hl
    have d0 : w5.cell? ⟨w.heap.size, 0, none⟩ = some (.bool th) := S5.out.1.cell 0
    have d1 : w5.cell? ⟨w.heap.size, 1, none⟩ = some (.int .u16 sz) := S5.out.1.cell 1
    have d2 : w5.cell? ⟨w.heap.size, 2, none⟩ = some (.int .u8 hi) := S5.out.1.cell 2
    have d3 : w5.cell? ⟨w.heap.size, 3, none⟩ = some (.int .u8 ve) := S5.out.1.cell 3
    have d4 : w5.cell? ⟨w.heap.size, 4, none⟩ = some (.int .u16 fl) := S5.out.1.cell 4
    have d5 : w5.cell? ⟨w.heap.size, 5, none⟩ = some (.slice B os.length m2) := S5.out.1.cell 5
    have hl : w.heap.size < w5.heap.size := S5.out.1.lt
    clear hb
    go_wp2_with (fail)
    go_ret
    exact ⟨rfl, S5.out.2.1⟩

set_option maxRecDepth 100000 in
theorem askOwn_out (sent c s : ByteArray) (enf th : Bool) (sz hi ve fl : Int) (B : Option Addr) (os : List Opt) (m2 : Nat) (w : World) (hO : OTab w B os) (ho : 60 < os.length) :
    Calls Try.prog 5 #[.string sent, .string c, .string s, .bool enf, .agg #[.bool th, .int .u16 sz, .int .u8 hi, .int .u8 ve, .int .u16 fl, .slice B os.length m2]] w fun e w' => e = .returned (.bool true) ∧ Below w.heap.size w w' := by
  have S0 := Lib.hid (SB.start w #[.bool th, .int .u16 sz, .int .u8 hi, .int .u8 ve, .int .u16 fl, .slice B os.length m2] hO)
  have h1 : (60 : Int) < (os.length : Int) := by omega
  clear ho hO
  go_enter Try.func5, Try.ntmps5
  go_wp2_with (fail)
  with_reducible refine (lives11 _).mono ?_
  rintro e w1 ⟨rfl, hb⟩
  have S1 := Lib.hid ((S0.out).next hb)
  have d0 : w1.cell? ⟨w.heap.size, 0, none⟩ = some (.bool th) := S1.out.1.cell 0
  have d1 : w1.cell? ⟨w.heap.size, 1, none⟩ = some (.int .u16 sz) := S1.out.1.cell 1
  have d2 : w1.cell? ⟨w.heap.size, 2, none⟩ = some (.int .u8 hi) := S1.out.1.cell 2
  have d3 : w1.cell? ⟨w.heap.size, 3, none⟩ = some (.int .u8 ve) := S1.out.1.cell 3
  have d4 : w1.cell? ⟨w.heap.size, 4, none⟩ = some (.int .u16 fl) := S1.out.1.cell 4
  have d5 : w1.cell? ⟨w.heap.size, 5, none⟩ = some (.slice B os.length m2) := S1.out.1.cell 5
  have hl : w.heap.size < w1.heap.size := S1.out.1.lt
  clear hb
  go_wp2_with (fail)
  go_ret
  exact ⟨rfl, S1.out.2.1⟩

theorem askOwn_law (w : World) (sent c s : ByteArray) (enf th : Bool) (sz hi ve fl : Int) (B : Option Addr) (os : List Opt) (m2 : Nat) (_hsent : sent.size ≤ maxLen) (hc : c.size ≤ maxLen) (hs : s.size ≤ maxLen) (hO : OTab w B os) (_hl2 : os.length ≤ m2) (_hm2 : m2 ≤ maxLen) :
    Calls Try.prog 5 #[.string sent, .string c, .string s, .bool enf, .agg #[.bool th, .int .u16 sz, .int .u8 hi, .int .u8 ve, .int .u16 fl, .slice B os.length m2]] w fun e w' => e = .returned (.bool true) ∧ Below w.heap.size w w' := by
  by_cases h2 : 60 < os.length
  · exact askOwn_out sent c s enf th sz hi ve fl B os m2 w hO h2
  have hn : os.length ≤ 9223372036854775807 := by omega
  have hA := fun W hT => Accept_any sent enf th sz hi ve fl B os m2 W hT hn
  have hK := fun W hT => Cookies_any th sz hi ve fl B os m2 W hT hn
  have hcase : ((ckR os).2.2 != 3) = true ∨ ((ckR os).2.2 = 3 ∧ enf = true ∧ (acR sent enf (ckR os)).2 = 3 ∧ (acR sent enf (ckR os)).1 = ⟨#[]⟩) ∨ ((ckR os).2.2 = 3 ∧ enf = false ∧ (acR sent enf (ckR os)).2 = 0 ∧ (acR sent enf (ckR os)).1 = ⟨#[]⟩) := by
    have h3 := ckR_three os
    by_cases hx : (ckR os).2.2 = 3
    · right
      unfold acR
      rw [if_neg (by omega), if_neg (by omega)]
      cases enf
      · exact .inr ⟨hx, rfl, rfl, h3 hx⟩
      · exact .inl ⟨hx, rfl, rfl, rfl⟩
    · left
      simpa using hx
  cases hr : rightB c s with
  | false => exact askOwn_A sent c s enf th sz hi ve fl B os m2 w hO (by omega) hc hs hr _ _ _ _ _ hA hK hcase
  | true =>
    cases hq : (sent.toList == c.toList) with
    | true => exact askOwn_B sent c s enf th sz hi ve fl B os m2 w hO (by omega) hc hs hr hq _ _ _ _ _ hA hK hcase
    | false => exact askOwn_C sent c s enf th sz hi ve fl B os m2 w hO (by omega) hc hs hr hq _ _ _ _ _ hA hK hcase
end Go.Proofs.Ytcphcgkbjlgkiaa
