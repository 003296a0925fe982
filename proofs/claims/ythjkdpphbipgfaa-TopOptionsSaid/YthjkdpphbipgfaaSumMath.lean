/- Plain laws on package sip's sum: no program in sight. -/
import Derived.Test.YthjkdpphbipgfaaRet
import Derived.Test.YthjkdpphbipgfaaWords
import Derived.RangeFuncNested
namespace Go.Proofs.Ythjkdpphbipgfaa
open Go.RowKit

/-- A state behind one more word. -/
def absorb (v : V4) (x : BitVec 64) : V4 :=
  let u := rnds 2 (v.1, v.2.1, v.2.2.1, v.2.2.2 ^^^ x)
  (u.1 ^^^ x, u.2.1, u.2.2.1, u.2.2.2)
def begin4 (k0 k1 : BitVec 64) : V4 := (k0 ^^^ 8317987319222330741#64, k1 ^^^ 7237128888997146477#64, k0 ^^^ 7816392313619706465#64, k1 ^^^ 8387220255154660723#64)
def end4 (v : V4) : BitVec 64 :=
  let u := rnds 4 (v.1, v.2.1, v.2.2.1 ^^^ 255#64, v.2.2.2)
  u.1 ^^^ u.2.1 ^^^ u.2.2.1 ^^^ u.2.2.2
def keyA (l : List UInt8) : BitVec 64 := BitVec.ofNat 64 (lowL (l.take 8))
def keyB (l : List UInt8) : BitVec 64 := BitVec.ofNat 64 (lowL (l.drop 8))
/-- The sum of l by a key k of 16 bytes. -/
def sumB (k l : List UInt8) : BitVec 64 := end4 ((wordsB l).foldl absorb (begin4 (keyA k) (keyB k)))
def sumN (k l : List UInt8) : Int := if k.length = 16 ∧ l.length ≤ 65536 then U (sumB k l) else 0
def sumE (k l : List UInt8) : Int := if k.length ≠ 16 then 2 else if 65536 < l.length then 7 else 0

theorem xor_c (k : BitVec 64) (c : Nat) (hc : c < 18446744073709551616) : bits .xor .u64 (U k) (c : Int) = U (k ^^^ BitVec.ofNat 64 c) := by
  rw [← U_xor, U_ofNat c hc]
theorem end4_eq {a b c d p1 p2 p3 p4 : BitVec 64} (h : rnds 4 (a, b, c ^^^ 255#64, d) = (p1, p2, p3, p4)) : end4 (a, b, c, d) = p1 ^^^ p2 ^^^ p3 ^^^ p4 := by
  simp only [end4, h]
theorem sum_eq {k l : List UInt8} {a b c d p1 p2 p3 p4 : BitVec 64} (h : (wordsB l).foldl absorb (begin4 (keyA k) (keyB k)) = (a, b, c, d)) (h2 : rnds 4 (a, b, c ^^^ 255#64, d) = (p1, p2, p3, p4)) :
    U (p1 ^^^ p2 ^^^ p3 ^^^ p4) = U (sumB k l) := by
  unfold sumB; rw [h, end4_eq h2]
theorem ret_sum {x y : Int} {e : Int} (h : x = y) : Ending.returned (.tuple #[.int .u64 x, .int .i64 e]) = .returned (.tuple #[.int .u64 y, .int .i64 e]) := by rw [h]
end Go.Proofs.Ythjkdpphbipgfaa
