/- Plain laws of the cookies that a server gives. No program in sight. Conditions: none. -/
import Derived.Test.YtcphcgkbjlgkiaaVerify
namespace Go.Proofs.Ytcphcgkbjlgkiaa

theorem bigB4 (n : Nat) : bigB n 4 = [bigI n 4, bigI n 5, bigI n 6, bigI n 7] := rfl
theorem beN_bigB4 {n : Nat} (h : n < 4294967296) : beN (bigB n 4) = n := by
  rw [bigB4]
  simp only [beN, List.foldl_cons, List.foldl_nil, bigI_toNat, Nat.reduceSub, Nat.reducePow]
  omega
theorem cookL_yes {i : Bool} {xs : List Entry} {k : ByteArray} {c : List UInt8} {a t : Nat} (h : cookE k c a t = 0) : cookL i xs k c a t = headL t ++ bytesL (cookN i xs k c a t).toNat 8 := if_pos h
theorem cookL_no {i : Bool} {xs : List Entry} {k : ByteArray} {c : List UInt8} {a t : Nat} (h : cookE k c a t ≠ 0) : cookL i xs k c a t = [] := if_neg h
theorem cook_len {i : Bool} {xs : List Entry} {k : ByteArray} {c : List UInt8} {a t : Nat} (h : cookE k c a t = 0) : (cookL i xs k c a t).length = 16 := by
  rw [cookL_yes h, List.length_append, headL_length, bytesL_length]
theorem cook_take {i : Bool} {xs : List Entry} {k : ByteArray} {c : List UInt8} {a t : Nat} (h : cookE k c a t = 0) : (cookL i xs k c a t).take 4 = [1, 0, 0, 0] := by
  rw [cookL_yes h]; rfl
theorem cook_stamp {i : Bool} {xs : List Entry} {k : ByteArray} {c : List UInt8} {a t : Nat} (h : cookE k c a t = 0) (ht : t < 4294967296) : stampN (cookL i xs k c a t) = t := by
  rw [cookL_yes h]
  have : ((headL t ++ bytesL (cookN i xs k c a t).toNat 8).drop 4).take 4 = bigB t 4 := by rw [bigB4]; rfl
  unfold stampN
  rw [this, beN_bigB4 ht]
theorem cookE_eq (k : ByteArray) (c : List UInt8) (a t : Nat) (hc : c.length ≤ 1000) : cookE k c a t = if k.size ≠ 16 then 2 else 0 := by
  unfold cookE sumE
  have h1 : k.data.toList.length = k.size := by simp
  have h2 : (gtext c (headL t) a).data.toList.length = 16 + c.length := by
    have := gtext_size c (headL t) a
    rw [headL_length] at this
    simp only [Array.length_toList]
    show (gtext c (headL t) a).size = _
    omega
  rw [h1, h2]
  split
  · rfl
  · rw [if_neg (by omega)]
theorem s32_back (now n : Int) (h : -2147483648 ≤ n ∧ n ≤ 2147483647) (t : Nat) (ht : now % 4294967296 = (t : Int)) : s32 (now + n - t) = n := by
  unfold s32; split <;> omega
theorem fresh_back (now n : Int) (h : -2147483648 ≤ n ∧ n ≤ 2147483647) (t : Nat) (ht : now % 4294967296 = (t : Int)) : freshN (now + n) t = if n < -300 ∨ 3600 < n then 10 else 0 := by
  unfold freshN; rw [s32_back now n h t ht]
theorem ver_made {i : Bool} {xs : List Entry} {k sn sw : ByteArray} {c : List UInt8} {a t : Nat} {now n : Int} (hc : c.length = 8) (h : cookE k c a t = 0) (hn : -2147483648 ≤ n ∧ n ≤ 2147483647) (ht : now % 4294967296 = (t : Int)) :
    verR i xs sn sw c (cookL i xs k c a t) a (now + n) = if n < -300 ∨ 3600 < n then (false, 10) else
      if cookE sn c a t = 0 ∧ cookL i xs sn c a t = cookL i xs k c a t then (decide (1800 < n), 0) else
      if cookE sw c a t = 0 ∧ cookL i xs sw c a t = cookL i xs k c a t then (true, 0) else (false, 6) := by
  have ht2 : t < 4294967296 := by omega
  have hl := cook_len (i := i) (xs := xs) h
  unfold verR
  rw [if_neg (by omega), if_neg (by intro e; rw [e] at hl; simp at hl), if_neg (by rintro (e | e); exact e hl; exact e (cook_take h)), cook_stamp h ht2, fresh_back now n hn t ht, s32_back now n hn t ht]
  by_cases hf : n < -300 ∨ 3600 < n
  · rw [if_pos hf, if_pos hf, if_pos (by decide)]
  · rw [if_neg hf, if_neg hf, if_neg (by decide)]
end Go.Proofs.Ytcphcgkbjlgkiaa
