/- Plain laws on words of 64 bits, for package sip: no program in sight. Plain laws on bytes and words: no program in sight. -/
import Derived.Test.YthjkdpphbipgfaaBase
import Derived.Laws.BitsAllLaws
import Derived.Laws.BitsLemmas
import Derived.Lib.Strings
namespace Go.Proofs.Ythjkdpphbipgfaa
open Go.RowKit

/-- A word as a number. -/
def U (x : BitVec 64) : Int := (x.toNat : Int)
theorem U_bd (x : BitVec 64) : 0 ≤ U x ∧ U x ≤ 18446744073709551615 := by unfold U; omega
theorem U_inj {x y : BitVec 64} (h : U x = U y) : x = y := by unfold U at h; exact BitVec.eq_of_toNat_eq (by omega)
theorem U_of {n : Int} (h : 0 ≤ n ∧ n ≤ 18446744073709551615) : U (BitVec.ofNat 64 n.toNat) = n := by
  unfold U; rw [BitVec.toNat_ofNat, Nat.mod_eq_of_lt (by omega)]; omega
theorem U_add (x y : BitVec 64) : IntKind.u64.wrap (U x + U y) = U (x + y) := by
  unfold U; rw [IntKind.wrap_u64, BitVec.toNat_add]; omega
theorem U_xor (x y : BitVec 64) : bits .xor .u64 (U x) (U y) = U (x ^^^ y) := by
  unfold U; rw [u64_xor_nat _ _ (by omega) (by omega), BitVec.toNat_xor]
theorem U_or (x y : BitVec 64) : bits .or .u64 (U x) (U y) = U (x ||| y) := by
  unfold U; rw [u64_or_nat _ _ (by omega) (by omega), BitVec.toNat_or]
/-- A word turned to the left, as the two shifts make it. -/
theorem U_rot (x : BitVec 64) (k : Nat) (p q : Int) (hk : k < 64) (hp : p = ((2 ^ k : Nat) : Int)) (hq : q = ((2 ^ (64 - k) : Nat) : Int)) :
    bits .or .u64 (IntKind.u64.wrap (U x * p)) (U x / q) = U (x.rotateLeft k) := by
  have e1 : IntKind.u64.wrap (U x * p) = U (x <<< k) := by
    have e : (18446744073709551616 : Int) = ((2 ^ 64 : Nat) : Int) := rfl
    unfold U
    rw [hp, IntKind.wrap_u64, BitVec.toNat_shiftLeft, Nat.shiftLeft_eq, e, ← Int.natCast_mul, ← Int.natCast_emod]
  have e2 : U x / q = U (x >>> (64 - k)) := by
    unfold U
    rw [hq, BitVec.toNat_ushiftRight, Nat.shiftRight_eq_div_pow, Int.natCast_ediv]
  rw [e1, e2, U_or]
  congr 1
  rw [BitVec.rotateLeft_def, Nat.mod_eq_of_lt hk]
/-- Turned, under a name that nothing opens. -/
def rot (k : Nat) (x : BitVec 64) : BitVec 64 := x.rotateLeft k

/-- A state's four words. -/
abbrev V4 := BitVec 64 × BitVec 64 × BitVec 64 × BitVec 64
/-- One round. -/
def rnd (v : V4) : V4 :=
  let a1 := v.1 + v.2.1
  let b1 := rot 13 v.2.1 ^^^ a1
  let a2 := rot 32 a1
  let c1 := v.2.2.1 + v.2.2.2
  let d1 := rot 16 v.2.2.2 ^^^ c1
  let a3 := a2 + d1
  let d2 := rot 21 d1 ^^^ a3
  let c2 := c1 + b1
  let b2 := rot 17 b1 ^^^ c2
  (a3, b2, rot 32 c2, d2)
/-- So many rounds. -/
def rnds : Nat → V4 → V4
  | 0, v => v
  | n + 1, v => rnd (rnds n v)
theorem rnds_add (m n : Nat) (v : V4) : rnds n (rnds m v) = rnds (m + n) v := by
  induction n with
  | zero => rfl
  | succ n ih => rw [rnds, ih, ← Nat.add_assoc, rnds]

theorem rot_inj (x y : BitVec 64) (k : Nat) (hk : k < 64) (h : x.rotateLeft k = y.rotateLeft k) : x = y := by
  apply BitVec.eq_of_getLsbD_eq
  intro i hi
  have hb := fun j => congrArg (fun z : BitVec 64 => z.getLsbD j) h
  simp only [BitVec.getLsbD_rotateLeft, Nat.mod_eq_of_lt hk] at hb
  by_cases hik : i + k < 64
  · have := hb (i + k)
    simp [show ¬ i + k < k by omega, hik] at this
    exact this
  · have := hb (i + k - 64)
    simp only [show i + k - 64 < k by omega, decide_true, cond_true, show 64 - k + (i + k - 64) = i by omega] at this
    exact this

theorem rot_inj' {x y : BitVec 64} (k : Nat) (hk : k < 64) (h : rot k x = rot k y) : x = y := rot_inj x y k hk h
theorem xor_inj (x y z : BitVec 64) (h : x ^^^ z = y ^^^ z) : x = y := by
  have := congrArg (· ^^^ z) h
  simpa [BitVec.xor_assoc] using this
theorem add_inj (x y z : BitVec 64) (h : x + z = y + z) : x = y := by
  have := congrArg (· - z) h
  simpa using this

theorem rnd_inj (u v : V4) (h : rnd u = rnd v) : u = v := by
  obtain ⟨a, b, c, d⟩ := u
  obtain ⟨a', b', c', d'⟩ := v
  simp only [rnd, Prod.mk.injEq] at h
  obtain ⟨ha, hb, hc, hd⟩ := h
  have hc2 := rot_inj' 32 (by omega) hc
  rw [hc2] at hb
  have hb1 := rot_inj' 17 (by omega) (xor_inj _ _ _ hb)
  rw [hb1] at hc2
  have hc1 := add_inj _ _ _ hc2
  rw [ha] at hd
  have hd1 := rot_inj' 21 (by omega) (xor_inj _ _ _ hd)
  rw [hd1] at ha
  have ha2 := rot_inj' 32 (by omega) (add_inj _ _ _ ha)
  rw [hc1] at hd1
  have hd0 := rot_inj' 16 (by omega) (xor_inj _ _ _ hd1)
  rw [ha2] at hb1
  have hb0 := rot_inj' 13 (by omega) (xor_inj _ _ _ hb1)
  rw [hb0] at ha2
  have ha0 := add_inj _ _ _ ha2
  rw [hd0] at hc1
  have hc0 := add_inj _ _ _ hc1
  rw [ha0, hb0, hc0, hd0]
end Go.Proofs.Ythjkdpphbipgfaa

namespace Go.Proofs.Ythjkdpphbipgfaa
open Go.RowKit

theorem reti {k : IntKind} {a b : Int} (h : a = b) : Ending.returned (.int k a) = .returned (.int k b) := by rw [h]
theorem retb {a b : Bool} (h : a = b) : Ending.returned (.bool a) = .returned (.bool b) := by rw [h]

/-- The number of some bytes, the lowest first. -/
def lowL : List UInt8 → Nat
  | [] => 0
  | c :: l => c.toNat + 256 * lowL l
theorem lowL_lt (l : List UInt8) : lowL l < 256 ^ l.length := by
  induction l with
  | nil => simp [lowL]
  | cons c l ih =>
    have := c.toNat_lt
    simp only [lowL, List.length_cons, Nat.pow_succ]
    omega
theorem lowL_snoc (l : List UInt8) (c : UInt8) : lowL (l ++ [c]) = lowL l + c.toNat * 256 ^ l.length := by
  induction l with
  | nil => simp [lowL]
  | cons d l ih =>
    simp only [List.cons_append, lowL, ih, List.length_cons, Nat.pow_succ, Nat.mul_add, Nat.add_assoc]
    congr 2
    rw [Nat.mul_comm (256 ^ l.length) 256, Nat.mul_left_comm]
theorem lowL_lt64 (l : List UInt8) (h : l.length ≤ 8) : lowL l < 18446744073709551616 := by
  have h1 := lowL_lt l
  have h2 : 256 ^ l.length ≤ 256 ^ 8 := Nat.pow_le_pow_right (by omega) h
  have h3 : 256 ^ 8 = 18446744073709551616 := by decide
  omega
theorem take_snoc8 (s : ByteArray) (k : Nat) (h : k < s.size) : s.data.toList.take (k + 1) = s.data.toList.take k ++ [s[k]] := by
  rw [List.take_succ_eq_append_getElem (by simpa using h)]; rfl
theorem drop_cons8 (s : ByteArray) (k : Nat) (h : k < s.size) : s.data.toList.drop k = s[k] :: s.data.toList.drop (k + 1) := by
  rw [List.drop_eq_getElem_cons (by simpa using h)]; rfl
theorem low_take (s : ByteArray) (k : Nat) (h : k < s.size) : lowL (s.data.toList.take (k + 1)) = lowL (s.data.toList.take k) + (s[k]).toNat * 256 ^ k := by
  rw [take_snoc8 s k h, lowL_snoc, List.length_take, Nat.min_eq_left (by simp; omega)]
theorem low_drop (s : ByteArray) (k : Nat) (h : k < s.size) : lowL (s.data.toList.drop k) = (s[k]).toNat + 256 * lowL (s.data.toList.drop (k + 1)) := by
  rw [drop_cons8 s k h, lowL]

theorem pow256 (k : Nat) : 256 ^ k = 2 ^ (8 * k) := by rw [show 256 = 2 ^ 8 from rfl, ← Nat.pow_mul]
/-- One byte more, as the shift and the 'or' lay it. -/
theorem or_byte (m c k : Nat) (hm : m < 256 ^ k) (hc : c < 256) (hk : k < 8) :
    bits .or .u64 (m : Int) (IntKind.u64.wrap (IntKind.u64.wrap (c : Int) * 2 ^ (8 * k))) = ((m + c * 256 ^ k : Nat) : Int) := by
  have hp : 256 ^ (k + 1) ≤ 256 ^ 8 := Nat.pow_le_pow_right (by omega) (by omega)
  have h8 : 256 ^ 8 = 18446744073709551616 := by decide
  have hb : c * 256 ^ k < 18446744073709551616 := by
    have h1 : c * 256 ^ k < 256 ^ (k + 1) := by rw [Nat.pow_succ, Nat.mul_comm]; exact Nat.mul_lt_mul_of_pos_left hc (Nat.pow_pos (by omega))
    omega
  have hm8 : m < 18446744073709551616 := by
    have h1 : 256 ^ k ≤ 256 ^ 8 := Nat.pow_le_pow_right (by omega) (by omega)
    omega
  have e1 : IntKind.u64.wrap (c : Int) = (c : Int) := by rw [IntKind.wrap_u64]; omega
  have e2 : (c : Int) * 2 ^ (8 * k) = ((c * 256 ^ k : Nat) : Int) := by rw [pow256, Int.natCast_mul, Int.natCast_pow]; rfl
  have e3 : IntKind.u64.wrap ((c * 256 ^ k : Nat) : Int) = ((c * 256 ^ k : Nat) : Int) := by rw [IntKind.wrap_u64]; omega
  rw [e1, e2, e3, u64_or_nat _ _ hm8 hb, Nat.or_comm, nat_join (8 * k) _ _ ?_ (by rw [← pow256]; exact hm), Nat.add_comm]
  rw [pow256]; exact Nat.mul_mod_left _ _
end Go.Proofs.Ythjkdpphbipgfaa
