/- The law AskApart, walked. -/
import Derived.Test.YtcphcgkbjlgkiaaAskLives
import Derived.Test.YtcphcgkbjlgkiaaKeyedApartL
import Derived.Test.YtcphcgkbjlgkiaaKeyedTells
import Derived.Test.YtcphcgkbjlgkiaaKeep2
import Derived.Deep.RegionHeld3
namespace Go.Proofs.Ytcphcgkbjlgkiaa
open Go.RowKit Go.Lib

/-! Plain -/
theorem lowL_byts (x : Nat) : ∀ k, lowL (bytesL x k) = x % 256 ^ k := by
  intro k
  induction k with
  | zero => simp [bytesL, lowL, Nat.mod_one]
  | succ k ih =>
    have happ : ∀ (l : List UInt8) (c : UInt8), lowL (l ++ [c]) = lowL l + 256 ^ l.length * c.toNat := by
      intro l c
      induction l with
      | nil => simp [lowL]
      | cons d l ihl =>
        show d.toNat + 256 * lowL (l ++ [c]) = d.toNat + 256 * lowL l + 256 ^ (l.length + 1) * c.toNat
        rw [ihl, Nat.pow_succ, Nat.mul_add, Nat.mul_comm (256 ^ l.length) 256, Nat.mul_assoc, Nat.add_assoc]
    rw [bytesL_succ, happ, ih, byteI_toNat, show (bytesL x k).length = k by simp [bytesL], Nat.pow_succ, Nat.mod_mul]
theorem bytes8_inj {x y : Nat} (hx : x < 18446744073709551616) (hy : y < 18446744073709551616) (h : bytesL x 8 = bytesL y 8) : x = y := by
  have := congrArg lowL h
  rw [lowL_byts, lowL_byts, Nat.mod_eq_of_lt (by simpa using hx), Nat.mod_eq_of_lt (by simpa using hy)] at this
  exact this
theorem bigB4_inj {x y : Nat} (hx : x < 4294967296) (hy : y < 4294967296) (h : bigB x 4 = bigB y 4) : x = y := by
  have g : ∀ j, j < 4 → (bigI x (8 - 4 + j)).toNat = (bigI y (8 - 4 + j)).toNat := by
    intro j hj
    have := congrArg (fun l => l[j]?) h
    simp only [bigB_get hj] at this
    rw [Option.some.inj this]
  have g0 := g 0 (by omega)
  have g1 := g 1 (by omega)
  have g2 := g 2 (by omega)
  have g3 := g 3 (by omega)
  simp only [bigI_toNat, Nat.reduceSub, Nat.reduceAdd, Nat.reducePow] at g0 g1 g2 g3
  omega
theorem atext_inj {a b : Nat} (ha : a < 4294967296) (hb : b < 4294967296) (h : (atext a).toList = (atext b).toList) : a = b := by
  rw [ByteArray.toList_eq, ByteArray.toList_eq] at h
  exact bigB4_inj ha hb (List.append_cancel_left h)
/-- What a sum is to an ideal hash whose entries are apart. -/
theorem ap_sum {xs : List Entry} (hap : Ap xs) (hok : ∀ e ∈ xs, e.ok) {k : ByteArray} {a b : Nat} (ha : a < 4294967296) (hb : b < 4294967296) (hE : clE k a = 0) (hE2 : clE k b = 0) :
    ((clN true xs k a != 0) = xs.any (Entry.is k (atext a))) ∧ (clN true xs k a = 0 ∨ a = b ∨ (a ≠ b ∧ (clL true xs k a == clL true xs k b) = false)) := by
  have n1 : clN true xs k a = findN (Entry.is k (atext a)) xs := by
    unfold clN ofN
    exact if_pos ⟨hE, rfl⟩
  have n2 : clN true xs k b = findN (Entry.is k (atext b)) xs := by
    unfold clN ofN
    exact if_pos ⟨hE2, rfl⟩
  have hfound := ap_found (k := k) (s := atext a) hap
  refine ⟨by rw [n1]; exact hfound, ?_⟩
  by_cases h0 : clN true xs k a = 0
  · exact .inl h0
  by_cases hab : a = b
  · exact .inr (.inl hab)
  refine .inr (.inr ⟨hab, ?_⟩)
  rw [beq_eq_false_iff_ne]
  intro hL
  unfold clL at hL
  rw [if_pos hE, if_pos hE2] at hL
  have bd1 := ofN_bd (i := true) (k := k) (s := atext a) hok
  have bd2 := ofN_bd (i := true) (k := k) (s := atext b) hok
  have hn : clN true xs k a = clN true xs k b := by
    have := bytes8_inj (x := (clN true xs k a).toNat) (y := (clN true xs k b).toNat) (by unfold clN; omega) (by unfold clN; omega) hL
    unfold clN at this ⊢
    omega
  have hone := ap_one (k := k) (s := atext a) (k2 := k) (s2 := atext b) hap
  rw [← n1, ← n2, hn, beq_self_eq_true] at hone
  have hany : xs.any (Entry.is k (atext a)) = true := by
    rw [← hfound, ← n1]
    simpa using h0
  rw [hany] at hone
  simp only [Bool.not_true, Bool.false_and, Bool.or_false, beq_self_eq_true, Bool.true_and] at hone
  exact hab (atext_inj ha hb (beq_iff_eq.1 hone.symm))
theorem clE_same (k : ByteArray) (a b : Nat) : clE k a = clE k b := by
  unfold clE sumE
  have h1 := atext_size a
  have h2 := atext_size b
  rw [show (atext a).data.toList.length = 7 from h1, show (atext b).data.toList.length = 7 from h2]
theorem clV {xs : List Entry} (hok : ∀ e ∈ xs, e.ok) {k : ByteArray} {a : Nat} (hE : clE k a = 0) (W : World) : Calls Try.prog 31 #[.string ⟨(clL true xs k a).toArray⟩] W fun e w' => e = .returned (.tuple #[.int .u64 (clN true xs k a), .int .i64 0]) ∧ W = w' := by
  have bd := ofN_bd (i := true) (k := k) (s := atext a) hok
  have hL : clL true xs k a = bytesL (clN true xs k a).toNat 8 := if_pos hE
  have h8 : (⟨(clL true xs k a).toArray⟩ : ByteArray).size = 8 := by rw [hL]; show (bytesL _ 8).toArray.size = 8; simp [bytesL]
  have h := value_any ⟨(clL true xs k a).toArray⟩ (by rw [h8]; decide) W
  have e1 : valN ⟨(clL true xs k a).toArray⟩ = clN true xs k a := by
    unfold valN
    rw [if_pos h8]
    show ((lowL (clL true xs k a) : Nat) : Int) = _
    rw [hL, lowL_byts]
    unfold clN
    omega
  have e2 : valE ⟨(clL true xs k a).toArray⟩ = 0 := if_pos h8
  rw [e1, e2] at h
  exact h

/-- The box that the law makes. -/
def SJ (w : World) (i : Bool) (A : Option Addr) (n m : Nat) (W : World) : Prop := Blk W w.heap.size 27 #[.bool i, .slice A n m] ∧ Below w.heap.size w W
section
variable {w W W' : World} {i : Bool} {A : Option Addr} {n m : Nat}
theorem SJ.next (h : SJ w i A n m W) (hb : Below W.heap.size W W') : SJ w i A n m W' := ⟨h.1.below hb h.1.lt, h.2.trans (hb.mono h.2.size)⟩
theorem SJ.start (w : World) (i : Bool) (A : Option Addr) (n m : Nat) : SJ w i A n m (w.alloc (.cells #[.bool i, .slice A n m] 27)) := ⟨Blk.new w _ _, (Below.refl _ _).alloc (Nat.le_refl _) _⟩
theorem SJ.low (h : SJ w i A n m W) : Below w.heap.size w W := h.2
theorem SJ.ideal (h : SJ w i A n m W) : SJ w true A n m (W.setCell ⟨w.heap.size, 0, none⟩ (.bool true)) := ⟨h.1.set_ 0 _, h.2.setCell (Nat.le_refl _) _⟩
end

set_option maxRecDepth 100000 in
set_option maxHeartbeats 2000000 in
theorem askApart_out (i : Bool) (xs : List Entry) (A : Option Addr) (m : Nat) (k : ByteArray) (a b : Nat) (w : World) (hT : Tab w A xs) (hbig : xs.length ≤ 9223372036854775807) (h : 60 < xs.length ∨ (xs.length ≤ 60 ∧ ¬ Ap xs)) :
    Calls Try.prog 6 #[.agg #[.bool i, .slice A xs.length m], .string k, .int .u32 (a : Int), .int .u32 (b : Int)] w fun e w' => e = .returned (.bool true) ∧ Below w.heap.size w w' := by
  have S0 := Lib.hid (SJ.start w i A xs.length m)
  have HT := Lib.hid hT
  have hS := fun W => small_any i xs A m W hbig
  have HAp := Lib.hid (fun (h : ¬ Ap xs) W hT => apart_is (v := false) (.inr ⟨rfl, h⟩) i A m W hT hbig)
  clear hT hbig
  rcases h with h | ⟨h, h2⟩
  · simp only [if_pos h] at hS
    have HS := Lib.hid hS
    clear hS h HAp
    go_enter Try.func6, Try.ntmps6
    go_wp2_with (fail)
    with_reducible refine (lives11 _).mono ?_
    rintro e w1 ⟨rfl, hb⟩
    have S1 := Lib.hid ((S0.out).next hb)
    have c0 : w1.cell? ⟨w.heap.size, 0, none⟩ = some (.bool i) := S1.out.1.cell 0
    have c1 : w1.cell? ⟨w.heap.size, 1, none⟩ = some (.slice A xs.length m) := S1.out.1.cell 1
    clear hb
    go_wp2_with (fail)
    with_reducible refine (HS.out _).mono ?_
    rintro e w2 ⟨rfl, hb⟩
    have S2 := Lib.hid ((S1.out).next hb)
    clear c0 c1
    have c0 : w2.cell? ⟨w.heap.size, 0, none⟩ = some (.bool i) := S2.out.1.cell 0
    have c1 : w2.cell? ⟨w.heap.size, 1, none⟩ = some (.slice A xs.length m) := S2.out.1.cell 1
    clear hb
    go_wp2_with (fail)
    go_ret
    exact ⟨rfl, S2.out.2⟩
  · simp only [if_neg (show ¬ 60 < xs.length by omega)] at hS
    have HS := Lib.hid hS
    have HA := Lib.hid (HAp.out h2)
    clear hS h h2 HAp
    go_enter Try.func6, Try.ntmps6
    go_wp2_with (fail)
    with_reducible refine (lives11 _).mono ?_
    rintro e w1 ⟨rfl, hb⟩
    have S1 := Lib.hid ((S0.out).next hb)
    have c0 : w1.cell? ⟨w.heap.size, 0, none⟩ = some (.bool i) := S1.out.1.cell 0
    have c1 : w1.cell? ⟨w.heap.size, 1, none⟩ = some (.slice A xs.length m) := S1.out.1.cell 1
    clear hb
    go_wp2_with (fail)
    with_reducible refine (HS.out _).mono ?_
    rintro e w2 ⟨rfl, hb⟩
    have S2 := Lib.hid ((S1.out).next hb)
    clear c0 c1
    have c0 : w2.cell? ⟨w.heap.size, 0, none⟩ = some (.bool i) := S2.out.1.cell 0
    have c1 : w2.cell? ⟨w.heap.size, 1, none⟩ = some (.slice A xs.length m) := S2.out.1.cell 1
    clear hb
    go_wp2_with (fail)
    with_reducible refine (HA.out _ (HT.out.below S2.out.low)).mono ?_
    rintro e w3 ⟨rfl, hb⟩
    have S3 := Lib.hid ((S2.out).next hb)
    clear c0 c1
    have c0 : w3.cell? ⟨w.heap.size, 0, none⟩ = some (.bool i) := S3.out.1.cell 0
    have c1 : w3.cell? ⟨w.heap.size, 1, none⟩ = some (.slice A xs.length m) := S3.out.1.cell 1
    clear hb
    go_wp2_with (fail)
    go_ret
    exact ⟨rfl, S3.out.2⟩

set_option maxRecDepth 100000 in
set_option maxHeartbeats 8000000 in
theorem askApart_N (i : Bool) (xs : List Entry) (A : Option Addr) (m : Nat) (k : ByteArray) (a b : Nat) (w : World) (hT : Tab w A xs) (hx : xs.length ≤ 60) (hap : Ap xs) (ha : a < 4294967296)
    (X Y : ByteArray) (E n : Int) (kn : Bool) (T : ByteArray)
    (hC1 : ∀ W, Tab W A xs → Calls Try.prog 22 #[.agg #[.bool true, .slice A xs.length m], .string k, .int .u32 (a : Int)] W fun e w' => e = .returned (.tuple #[.string X, .int .i64 E]) ∧ Below W.heap.size W w')
    (hC2 : ∀ W, Tab W A xs → Calls Try.prog 22 #[.agg #[.bool true, .slice A xs.length m], .string k, .int .u32 (b : Int)] W fun e w' => e = .returned (.tuple #[.string Y, .int .i64 E]) ∧ Below W.heap.size W w')
    (hV : E = 0 → ∀ W, Calls Try.prog 31 #[.string X] W fun e w' => e = .returned (.tuple #[.int .u64 n, .int .i64 0]) ∧ W = w')
    (hTx : ∀ W, Calls Try.prog 26 #[.int .u32 (a : Int)] W fun e w' => e = .returned (.string T) ∧ Below W.heap.size W w')
    (hKn : ∀ W, Tab W A xs → Calls Try.prog 18 #[.agg #[.bool true, .slice A xs.length m], .string k, .string T] W fun e w' => e = .returned (.bool kn) ∧ Below W.heap.size W w')
    (h0 : E ≠ 0) (hX : X = ⟨#[]⟩) (hY : Y = ⟨#[]⟩) :
    Calls Try.prog 6 #[.agg #[.bool i, .slice A xs.length m], .string k, .int .u32 (a : Int), .int .u32 (b : Int)] w fun e w' => e = .returned (.bool true) ∧ Below w.heap.size w w' := by
  have hbig : xs.length ≤ 9223372036854775807 := by omega
  have S0 := Lib.hid (SJ.start w i A xs.length m)
  have HT := Lib.hid hT
  have hS := fun W => small_any i xs A m W hbig
  simp only [if_neg (show ¬ 60 < xs.length by omega)] at hS
  have HS := Lib.hid hS
  have HA := Lib.hid (fun W hT => apart_is (v := true) (.inl ⟨rfl, hap⟩) i A m W hT hbig)
  have hai : (a : Int) ≤ 4294967295 := by omega
  have HC1 := Lib.hid hC1
  have HC2 := Lib.hid hC2
  have HTx := Lib.hid hTx
  have HKn := Lib.hid hKn
  clear hS hap hT hx hbig ha hC1 hC2 hTx hKn
  subst hX hY
  · have h00 : (E != 0) = true := by simpa using h0
    clear h0 hV
    go_enter Try.func6, Try.ntmps6
    go_wp2_with (fail)
    with_reducible refine (lives11 _).mono ?_
    rintro e w1 ⟨rfl, hb⟩
    have S1 := Lib.hid ((S0.out).next hb)
    have c0 : w1.cell? ⟨w.heap.size, 0, none⟩ = some (.bool i) := S1.out.1.cell 0
    have c1 : w1.cell? ⟨w.heap.size, 1, none⟩ = some (.slice A xs.length m) := S1.out.1.cell 1
    clear hb
    go_wp2_with (fail)
    with_reducible refine (HS.out _).mono ?_
    rintro e w2 ⟨rfl, hb⟩
    have S2 := Lib.hid ((S1.out).next hb)
    clear c0 c1
    have c0 : w2.cell? ⟨w.heap.size, 0, none⟩ = some (.bool i) := S2.out.1.cell 0
    have c1 : w2.cell? ⟨w.heap.size, 1, none⟩ = some (.slice A xs.length m) := S2.out.1.cell 1
    clear hb
    go_wp2_with (fail)
    with_reducible refine (HA.out _ (HT.out.below S2.out.low)).mono ?_
    rintro e w3 ⟨rfl, hb⟩
    have S3 := Lib.hid ((S2.out).next hb)
    clear c0 c1
    have c0 : w3.cell? ⟨w.heap.size, 0, none⟩ = some (.bool i) := S3.out.1.cell 0
    have c1 : w3.cell? ⟨w.heap.size, 1, none⟩ = some (.slice A xs.length m) := S3.out.1.cell 1
    clear hb
    have f0 := S3.out.1.frozen 0
    go_wp2_with (fail)
    have T3 := Lib.hid S3.out.ideal
    with_reducible refine (HC1.out _ (HT.out.below T3.out.low)).mono ?_
    rintro e w4 ⟨rfl, hb⟩
    have S4 := Lib.hid (T3.out.next hb)
    clear c0 c1 f0
    have c0 : w4.cell? ⟨w.heap.size, 0, none⟩ = some (.bool true) := S4.out.1.cell 0
    have c1 : w4.cell? ⟨w.heap.size, 1, none⟩ = some (.slice A xs.length m) := S4.out.1.cell 1
    clear hb
    go_wp2_with (fail)
    with_reducible refine (HC2.out _ (HT.out.below S4.out.low)).mono ?_
    rintro e w5 ⟨rfl, hb⟩
    have S5 := Lib.hid ((S4.out).next hb)
    clear c0 c1
    have c0 : w5.cell? ⟨w.heap.size, 0, none⟩ = some (.bool true) := S5.out.1.cell 0
    have c1 : w5.cell? ⟨w.heap.size, 1, none⟩ = some (.slice A xs.length m) := S5.out.1.cell 1
    clear hb
    go_wp2_with (fail)
    go_ret
    exact ⟨rfl, S5.out.2⟩

end Go.Proofs.Ytcphcgkbjlgkiaa
