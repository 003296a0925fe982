/- AskApart, where the sum is 0. -/
import Derived.Test.YtcphcgkbjlgkiaaAskApart0
namespace Go.Proofs.Ytcphcgkbjlgkiaa
open Go.RowKit Go.Lib

set_option maxRecDepth 100000 in
set_option maxHeartbeats 8000000 in
theorem askApart_Z (i : Bool) (xs : List Entry) (A : Option Addr) (m : Nat) (k : ByteArray) (a b : Nat) (w : World) (hT : Tab w A xs) (hx : xs.length ≤ 60) (hap : Ap xs) (ha : a < 4294967296)
    (X Y : ByteArray) (E n : Int) (kn : Bool) (T : ByteArray)
    (hC1 : ∀ W, Tab W A xs → Calls Try.prog 22 #[.agg #[.bool true, .slice A xs.length m], .string k, .int .u32 (a : Int)] W fun e w' => e = .returned (.tuple #[.string X, .int .i64 E]) ∧ Below W.heap.size W w')
    (hC2 : ∀ W, Tab W A xs → Calls Try.prog 22 #[.agg #[.bool true, .slice A xs.length m], .string k, .int .u32 (b : Int)] W fun e w' => e = .returned (.tuple #[.string Y, .int .i64 E]) ∧ Below W.heap.size W w')
    (hV : E = 0 → ∀ W, Calls Try.prog 31 #[.string X] W fun e w' => e = .returned (.tuple #[.int .u64 n, .int .i64 0]) ∧ W = w')
    (hTx : ∀ W, Calls Try.prog 26 #[.int .u32 (a : Int)] W fun e w' => e = .returned (.string T) ∧ Below W.heap.size W w')
    (hKn : ∀ W, Tab W A xs → Calls Try.prog 18 #[.agg #[.bool true, .slice A xs.length m], .string k, .string T] W fun e w' => e = .returned (.bool kn) ∧ Below W.heap.size W w')
    (h0 : E = 0) (hn : n = 0) (hkn : kn = false) :
    Calls Try.prog 6 #[.agg #[.bool i, .slice A xs.length m], .string k, .int .u32 (a : Int), .int .u32 (b : Int)] w fun e w' => e = .returned (.bool true) ∧ Below w.heap.size w w' := by
  have hbig : xs.length ≤ 9223372036854775807 := by omega
  have S0 := Lib.hid (SJ.start w i A xs.length m)
  have HT := Lib.hid hT
  have hS := fun W => small_any i xs A m W hbig
  simp only [if_neg (show ¬ 60 < xs.length by omega)] at hS
  have HS := Lib.hid hS
  have HA := Lib.hid (fun W hT => apart_is (v := true) (.inl ⟨rfl, hap⟩) i A m W hT hbig)
  have hai : (a : Int) ≤ 4294967295 := by omega
  have HC1 := Lib.hid hC1
  have HC2 := Lib.hid hC2
  have HTx := Lib.hid hTx
  have HKn := Lib.hid hKn
  clear hS hap hT hx hbig ha hC1 hC2 hTx hKn
  subst h0 hn hkn
  · have HV := Lib.hid (hV rfl)
    clear hV
    go_enter Try.func6, Try.ntmps6
    go_wp2_with (fail)
    with_reducible refine (lives11 _).mono ?_
    rintro e w1 ⟨rfl, hb⟩
    have S1 := Lib.hid ((S0.out).next hb)
    have c0 : w1.cell? ⟨w.heap.size, 0, none⟩ = some (.bool i) := S1.out.1.cell 0
    have c1 : w1.cell? ⟨w.heap.size, 1, none⟩ = some (.slice A xs.length m) := S1.out.1.cell 1
    clear hb
    go_wp2_with (fail)
    with_reducible refine (HS.out _).mono ?_
    rintro e w2 ⟨rfl, hb⟩
    have S2 := Lib.hid ((S1.out).next hb)
    clear c0 c1
    have c0 : w2.cell? ⟨w.heap.size, 0, none⟩ = some (.bool i) := S2.out.1.cell 0
    have c1 : w2.cell? ⟨w.heap.size, 1, none⟩ = some (.slice A xs.length m) := S2.out.1.cell 1
    clear hb
    go_wp2_with (fail)
    with_reducible refine (HA.out _ (HT.out.below S2.out.low)).mono ?_
    rintro e w3 ⟨rfl, hb⟩
    have S3 := Lib.hid ((S2.out).next hb)
    clear c0 c1
    have c0 : w3.cell? ⟨w.heap.size, 0, none⟩ = some (.bool i) := S3.out.1.cell 0
    have c1 : w3.cell? ⟨w.heap.size, 1, none⟩ = some (.slice A xs.length m) := S3.out.1.cell 1
    clear hb
    have f0 := S3.out.1.frozen 0
    go_wp2_with (fail)
    have T3 := Lib.hid S3.out.ideal
    with_reducible refine (HC1.out _ (HT.out.below T3.out.low)).mono ?_
    rintro e w4 ⟨rfl, hb⟩
    have S4 := Lib.hid (T3.out.next hb)
    clear c0 c1 f0
    have c0 : w4.cell? ⟨w.heap.size, 0, none⟩ = some (.bool true) := S4.out.1.cell 0
    have c1 : w4.cell? ⟨w.heap.size, 1, none⟩ = some (.slice A xs.length m) := S4.out.1.cell 1
    clear hb
    go_wp2_with (fail)
    with_reducible refine (HC2.out _ (HT.out.below S4.out.low)).mono ?_
    rintro e w5 ⟨rfl, hb⟩
    have S5 := Lib.hid ((S4.out).next hb)
    clear c0 c1
    have c0 : w5.cell? ⟨w.heap.size, 0, none⟩ = some (.bool true) := S5.out.1.cell 0
    have c1 : w5.cell? ⟨w.heap.size, 1, none⟩ = some (.slice A xs.length m) := S5.out.1.cell 1
    clear hb
    go_wp2_with (fail)
    with_reducible refine (HV.out _).mono ?_
    rintro e w6 ⟨rfl, rfl⟩
    go_wp2_with (fail)
    have hs0 : w.heap.size < w5.heap.size := S5.out.1.lt
    have hrefl : Below w5.heap.size w5 w5 := Below.refl _ _
    have JK := Lib.hid (fun (W : World) (h : Below w5.heap.size w5 W) => HKn.out W ((HT.out.below S5.out.low).below h))
    refine wp_region_held_drew (S := (fun w' => w'.cell? ⟨w.heap.size, 0, none⟩ = some (.bool true) ∧ w'.cell? ⟨w.heap.size, 1, none⟩ = some (.slice A xs.length m) ∧ w5.heap.size ≤ w'.heap.size ∧ Below w5.heap.size w5 w')) (by kernel_rfl) ?_ (fun hHeld0 => ?_)
    · exact keep2D ⟨c0, c1, Nat.le_refl _, hrefl⟩
    refine wpAnyH_take (i := 0) (v := .int .i64 0) rfl (by kernel_rfl) (by kernel_rfl) (by kernel_rfl) (fun _ _ _ h => h) (Or.inl ⟨by rfl, ?_⟩) (by assumption) ?_
    · intro w hSw; (try dsimp only at hSw); go_simp
    try simp only [List.getElem_toArray, List.getElem_cons_zero, List.getElem_cons_succ, Act.put, List.setIfInBounds_toArray, List.set_cons_zero, List.set_cons_succ]
    refine wpAnyH_take (i := 1) (v := .bool true) rfl (by kernel_rfl) (by kernel_rfl) (by kernel_rfl) (fun _ _ _ h => h) (Or.inl ⟨by rfl, ?_⟩) (by assumption) ?_
    · intro w hSw; (try dsimp only at hSw); go_simp
    try simp only [List.getElem_toArray, List.getElem_cons_zero, List.getElem_cons_succ, Act.put, List.setIfInBounds_toArray, List.set_cons_zero, List.set_cons_succ]
    refine wpAnyH_take (i := 2) (v := .bool true) rfl (by kernel_rfl) (by kernel_rfl) (by kernel_rfl) (fun _ _ _ h => h) (Or.inl ⟨by rfl, ?_⟩) (by assumption) ?_
    · intro w hSw; (try dsimp only at hSw); go_simp
    try simp only [List.getElem_toArray, List.getElem_cons_zero, List.getElem_cons_succ, Act.put, List.setIfInBounds_toArray, List.set_cons_zero, List.set_cons_succ]
    refine wpAnyH_take (i := 3) (v := .int .u64 0) rfl (by kernel_rfl) (by kernel_rfl) (by kernel_rfl) (fun _ _ _ h => h) (Or.inl ⟨by rfl, ?_⟩) (by assumption) ?_
    · intro w hSw; (try dsimp only at hSw); go_simp
    try simp only [List.getElem_toArray, List.getElem_cons_zero, List.getElem_cons_succ, Act.put, List.setIfInBounds_toArray, List.set_cons_zero, List.set_cons_succ]
    refine wpAnyH_take (i := 4) (v := .bool false) rfl (by kernel_rfl) (by kernel_rfl) (by kernel_rfl) (fun _ _ _ h => h) (Or.inl ⟨by rfl, ?_⟩) (by assumption) ?_
    · intro w hSw; (try dsimp only at hSw); go_simp
    try simp only [List.getElem_toArray, List.getElem_cons_zero, List.getElem_cons_succ, Act.put, List.setIfInBounds_toArray, List.set_cons_zero, List.set_cons_succ]
    refine wpAnyH_take (i := 5) (v := .agg #[.bool true, .slice A xs.length m]) rfl (by kernel_rfl) (by kernel_rfl) (by kernel_rfl) (fun _ _ _ h => h) (Or.inl ⟨by rfl, ?_⟩) (by assumption) ?_
    · intro w hSw; (try dsimp only at hSw); go_simp
    try simp only [List.getElem_toArray, List.getElem_cons_zero, List.getElem_cons_succ, Act.put, List.setIfInBounds_toArray, List.set_cons_zero, List.set_cons_succ]
    refine wpAnyH_take (i := 6) (v := .string k) rfl (by kernel_rfl) (by kernel_rfl) (by kernel_rfl) (fun _ _ _ h => h) (Or.inl ⟨by rfl, ?_⟩) (by assumption) ?_
    · intro w hSw; (try dsimp only at hSw); go_simp
    try simp only [List.getElem_toArray, List.getElem_cons_zero, List.getElem_cons_succ, Act.put, List.setIfInBounds_toArray, List.set_cons_zero, List.set_cons_succ]
    refine wpAnyH_take (i := 7) (v := .int .u32 (a : Int)) rfl (by kernel_rfl) (by kernel_rfl) (by kernel_rfl) (fun _ _ _ h => h) (Or.inl ⟨by rfl, ?_⟩) (by assumption) ?_
    · intro w hSw; (try dsimp only at hSw); go_simp
    try simp only [List.getElem_toArray, List.getElem_cons_zero, List.getElem_cons_succ, Act.put, List.setIfInBounds_toArray, List.set_cons_zero, List.set_cons_succ]
    refine wpAnyH_ready (rs := [8]) (by kernel_rfl) (by simp) ?_
    refine AllReadyH.cons rfl (fun K hK => ?_) AllReadyH.nil
    go_simp
    (go_at_call 26; refine (HTx.out _).mono ?_; rintro e w' ⟨rfl, hb⟩)
    try go_wp2_with (fail)
    refine hK.out _ _ ?_ (fun hHeld => ?_)
    · exact keep2C hs0 hHeld0 hb
    clear hK K hHeld0
    have hHeld0 := hHeld
    clear hHeld
    try simp only [List.getElem_toArray, List.getElem_cons_zero, List.getElem_cons_succ, Act.put, List.setIfInBounds_toArray, List.set_cons_zero, List.set_cons_succ]
    refine wpAnyH_ready (rs := [9]) (by kernel_rfl) (by simp) ?_
    refine AllReadyH.cons rfl (fun K hK => ?_) AllReadyH.nil
    go_simp
    (go_at_call 18; refine (JK.out _ (last4 hHeld0)).mono ?_; rintro e w' ⟨rfl, hb⟩)
    try go_wp2_with (fail)
    refine hK.out _ _ ?_ (fun hHeld => ?_)
    · exact keep2C hs0 hHeld0 hb
    clear hK K hHeld0
    have hHeld0 := hHeld
    clear hHeld
    try simp only [List.getElem_toArray, List.getElem_cons_zero, List.getElem_cons_succ, Act.put, List.setIfInBounds_toArray, List.set_cons_zero, List.set_cons_succ]
    refine wpAnyH_take (i := 10) (v := .bool true) rfl (by kernel_rfl) (by kernel_rfl) (by kernel_rfl) (fun _ _ _ h => h) (Or.inl ⟨by rfl, ?_⟩) (by assumption) ?_
    · intro w hSw; (try dsimp only at hSw); go_simp
    try simp only [List.getElem_toArray, List.getElem_cons_zero, List.getElem_cons_succ, Act.put, List.setIfInBounds_toArray, List.set_cons_zero, List.set_cons_succ]
    refine wpAnyH_take (i := 11) (v := .bool true) rfl (by kernel_rfl) (by kernel_rfl) (by kernel_rfl) (fun _ _ _ h => h) (Or.inl ⟨by rfl, ?_⟩) (by assumption) ?_
    · intro w hSw; (try dsimp only at hSw); go_simp
    try simp only [List.getElem_toArray, List.getElem_cons_zero, List.getElem_cons_succ, Act.put, List.setIfInBounds_toArray, List.set_cons_zero, List.set_cons_succ]
    refine wpAnyH_take (i := 12) (v := .bool true) rfl (by kernel_rfl) (by kernel_rfl) (by kernel_rfl) (fun _ _ _ h => h) (Or.inl ⟨by rfl, ?_⟩) (by assumption) ?_
    · intro w hSw; (try dsimp only at hSw); go_simp
    try simp only [List.getElem_toArray, List.getElem_cons_zero, List.getElem_cons_succ, Act.put, List.setIfInBounds_toArray, List.set_cons_zero, List.set_cons_succ]
    refine wpAnyH_take (i := 13) (v := .int .u64 0) rfl (by kernel_rfl) (by kernel_rfl) (by kernel_rfl) (fun _ _ _ h => h) (Or.inl ⟨by rfl, ?_⟩) (by assumption) ?_
    · intro w hSw; (try dsimp only at hSw); go_simp
    try simp only [List.getElem_toArray, List.getElem_cons_zero, List.getElem_cons_succ, Act.put, List.setIfInBounds_toArray, List.set_cons_zero, List.set_cons_succ]
    refine wpAnyH_take (i := 14) (v := .bool true) rfl (by kernel_rfl) (by kernel_rfl) (by kernel_rfl) (fun _ _ _ h => h) (Or.inl ⟨by rfl, ?_⟩) (by assumption) ?_
    · intro w hSw; (try dsimp only at hSw); go_simp
    try simp only [List.getElem_toArray, List.getElem_cons_zero, List.getElem_cons_succ, Act.put, List.setIfInBounds_toArray, List.set_cons_zero, List.set_cons_succ]
    refine wpAnyH_take (i := 15) (v := .bool true) rfl (by kernel_rfl) (by kernel_rfl) (by kernel_rfl) (fun _ _ _ h => h) (Or.inl ⟨by rfl, ?_⟩) (by assumption) ?_
    · intro w hSw; (try dsimp only at hSw); go_simp
    try simp only [List.getElem_toArray, List.getElem_cons_zero, List.getElem_cons_succ, Act.put, List.setIfInBounds_toArray, List.set_cons_zero, List.set_cons_succ]
    refine wpAnyH_take (i := 16) (v := undef) rfl (by kernel_rfl) (by kernel_rfl) (by kernel_rfl) (fun _ _ _ h => h) (Or.inr ⟨by rfl, rfl⟩) (by assumption) ?_
    try simp only [List.getElem_toArray, List.getElem_cons_zero, List.getElem_cons_succ, Act.put, List.setIfInBounds_toArray, List.set_cons_zero, List.set_cons_succ]
    refine wpAnyH_take (i := 17) (v := undef) rfl (by kernel_rfl) (by kernel_rfl) (by kernel_rfl) (fun _ _ _ h => h) (Or.inr ⟨by rfl, rfl⟩) (by assumption) ?_
    try simp only [List.getElem_toArray, List.getElem_cons_zero, List.getElem_cons_succ, Act.put, List.setIfInBounds_toArray, List.set_cons_zero, List.set_cons_succ]
    refine wpAnyH_take (i := 18) (v := undef) rfl (by kernel_rfl) (by kernel_rfl) (by kernel_rfl) (fun _ _ _ h => h) (Or.inr ⟨by rfl, rfl⟩) (by assumption) ?_
    try simp only [List.getElem_toArray, List.getElem_cons_zero, List.getElem_cons_succ, Act.put, List.setIfInBounds_toArray, List.set_cons_zero, List.set_cons_succ]
    refine wpAnyH_take (i := 19) (v := undef) rfl (by kernel_rfl) (by kernel_rfl) (by kernel_rfl) (fun _ _ _ h => h) (Or.inr ⟨by rfl, rfl⟩) (by assumption) ?_
    try simp only [List.getElem_toArray, List.getElem_cons_zero, List.getElem_cons_succ, Act.put, List.setIfInBounds_toArray, List.set_cons_zero, List.set_cons_succ]
    refine wpAnyH_take (i := 20) (v := undef) rfl (by kernel_rfl) (by kernel_rfl) (by kernel_rfl) (fun _ _ _ h => h) (Or.inr ⟨by rfl, rfl⟩) (by assumption) ?_
    try simp only [List.getElem_toArray, List.getElem_cons_zero, List.getElem_cons_succ, Act.put, List.setIfInBounds_toArray, List.set_cons_zero, List.set_cons_succ]
    refine wpAnyH_take (i := 21) (v := undef) rfl (by kernel_rfl) (by kernel_rfl) (by kernel_rfl) (fun _ _ _ h => h) (Or.inr ⟨by rfl, rfl⟩) (by assumption) ?_
    try simp only [List.getElem_toArray, List.getElem_cons_zero, List.getElem_cons_succ, Act.put, List.setIfInBounds_toArray, List.set_cons_zero, List.set_cons_succ]
    refine wpAnyH_take (i := 22) (v := undef) rfl (by kernel_rfl) (by kernel_rfl) (by kernel_rfl) (fun _ _ _ h => h) (Or.inr ⟨by rfl, rfl⟩) (by assumption) ?_
    try simp only [List.getElem_toArray, List.getElem_cons_zero, List.getElem_cons_succ, Act.put, List.setIfInBounds_toArray, List.set_cons_zero, List.set_cons_succ]
    refine wpAnyH_take (i := 23) (v := .bool true) rfl (by kernel_rfl) (by kernel_rfl) (by kernel_rfl) (fun _ _ _ h => h) (Or.inl ⟨by rfl, ?_⟩) (by assumption) ?_
    · intro w hSw; (try dsimp only at hSw); go_simp
    try simp only [List.getElem_toArray, List.getElem_cons_zero, List.getElem_cons_succ, Act.put, List.setIfInBounds_toArray, List.set_cons_zero, List.set_cons_succ]
    refine wpAnyH_take (i := 24) (v := .bool true) rfl (by kernel_rfl) (by kernel_rfl) (by kernel_rfl) (fun _ _ _ h => h) (Or.inl ⟨by rfl, ?_⟩) (by assumption) ?_
    · intro w hSw; (try dsimp only at hSw); go_simp
    try simp only [List.getElem_toArray, List.getElem_cons_zero, List.getElem_cons_succ, Act.put, List.setIfInBounds_toArray, List.set_cons_zero, List.set_cons_succ]
    refine wpAnyH_take (i := 25) (v := .bool true) rfl (by kernel_rfl) (by kernel_rfl) (by kernel_rfl) (fun _ _ _ h => h) (Or.inl ⟨by rfl, ?_⟩) (by assumption) ?_
    · intro w hSw; (try dsimp only at hSw); go_simp
    try simp only [List.getElem_toArray, List.getElem_cons_zero, List.getElem_cons_succ, Act.put, List.setIfInBounds_toArray, List.set_cons_zero, List.set_cons_succ]
    refine wpAnyH_done (by kernel_rfl) ?_ _
    have hbf := last4 hHeld0
    have HBF := Lib.hid (S5.out.low.trans (hbf.mono S5.out.low.size))
    clear hbf c0 c1 hHeld0
    go_wp2_with (fail)
    go_ret
    exact ⟨rfl, HBF.out⟩

end Go.Proofs.Ytcphcgkbjlgkiaa
