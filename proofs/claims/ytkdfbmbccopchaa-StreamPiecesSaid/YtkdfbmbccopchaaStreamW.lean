/- The walks of stream.whole and Feed. -/
import Derived.Test.YtkdfbmbccopchaaStreamU
namespace Go.Proofs.Ytkdfbmbccopchaa
open Go.RowKit Go.Lib

theorem or_i64 (x y : Nat) (hx : x ≤ 255) (hy : y ≤ 255) : bits .or .i64 ((x : Int) * 256) (y : Int) = ((x * 256 + y : Nat) : Int) := by
  have h1 : (x : Int) * 256 = ((x * 256 : Nat) : Int) := by omega
  have h2 : (BitVec.ofInt 64 ((x * 256 : Nat) : Int)).toNat = x * 256 := by
    rw [BitVec.ofInt_natCast, BitVec.toNat_ofNat]; exact Nat.mod_eq_of_lt (by omega)
  have h3 : (BitVec.ofInt 64 (y : Int)).toNat = y := by
    rw [BitVec.ofInt_natCast, BitVec.toNat_ofNat]; exact Nat.mod_eq_of_lt (by omega)
  have h4 := Nat.two_pow_add_eq_or_of_lt (i := 8) (b := y) (by omega) x
  rw [h1]
  show IntKind.i64.wrap ((BitVec.ofInt 64 ((x * 256 : Nat) : Int) ||| BitVec.ofInt 64 (y : Int)).toNat : Int) = _
  rw [BitVec.toNat_or, h2, h3, show x * 256 = 2 ^ 8 * x by omega, ← h4]
  exact IntWalk.i64_in _ (by omega)
def wholeB : List UInt8 → Bool
  | a :: b :: t => decide (numM a b ≤ t.length)
  | _ => false
theorem whole_end {l : List UInt8} (h : wholeB l = false) : endM l := by
  match l, h with
  | [], _ => trivial
  | [a], _ => trivial
  | a :: b :: t, h =>
    have : ¬ numM a b ≤ t.length := by simpa [wholeB] using h
    show t.length < numM a b
    omega

set_option maxRecDepth 100000 in
set_option maxHeartbeats 2000000 in
theorem whole_any (A : Option Addr) (c : Nat) (l : List UInt8) (w : World) (h : Sl w 1 (.slice A l.length c) l.length (l.map b8)) (hl : l.length ≤ 1000000) :
    Calls Try.prog 68 #[.slice A l.length c] w fun e w' => e = .returned (.bool (wholeB l)) ∧ ∃ m, w' = w.drewN m := by
  match l, h, hl with
  | [], h, _ =>
    go_enter Try.func68, Try.ntmps68
    go_wp2_with (fail)
    go_quiet (fail)
    go_wp2_with (fail)
    go_ret
    exact ⟨rfl, _, rfl⟩
  | [a], h, _ =>
    go_enter Try.func68, Try.ntmps68
    go_wp2_with (fail)
    go_quiet (fail)
    go_wp2_with (fail)
    go_ret
    exact ⟨rfl, _, rfl⟩
  | a :: b :: t, h, hl =>
    obtain ⟨g, cap, hv, hg, hc1, _, h4⟩ := h.form (by simp)
    injection hv with hA _ hcc
    subst hA hcc
    have c0 : w.cell? ⟨g, 0, none⟩ = some (.int .u8 (a.toNat : Int)) := h4 0 _ rfl
    have c1 : w.cell? ⟨g, 1, none⟩ = some (.int .u8 (b.toNat : Int)) := h4 1 _ rfl
    have hta : (a.toNat : Int) ≤ 255 := by have := a.toNat_lt; omega
    have htb : (b.toNat : Int) ≤ 255 := by have := b.toNat_lt; omega
    have hlen : (a :: b :: t).length = t.length + 2 := rfl
    obtain ⟨n, hn⟩ : ∃ n, t.length = n := ⟨_, rfl⟩
    obtain ⟨x, hx⟩ : ∃ x, a.toNat = x := ⟨_, rfl⟩
    obtain ⟨y, hy⟩ : ∃ y, b.toNat = y := ⟨_, rfl⟩
    rw [hlen, hn]
    rw [hx] at c0 hta
    rw [hy] at c1 htb
    have hr : wholeB (a :: b :: t) = decide (x * 256 + y ≤ n) := by show decide (numM a b ≤ t.length) = _; unfold numM; rw [hx, hy, hn]
    rw [hr]
    have hnI : (n : Int) ≤ 1000000 := by simp at hl; omega
    have e1 : (2 : Int) ≤ (n : Int) + 2 := by omega
    clear h h4 hg hlen hr hl hn hx hy hc1
    go_enter Try.func68, Try.ntmps68
    go_wp2_with (fail)
    go_quiet (fail)
    go_wp2_with (fail)
    go_ret
    refine ⟨?_, _, rfl⟩
    show Ending.returned (.bool (decide (bits .or .i64 ((x : Int) * 256) (y : Int) ≤ (n : Int)))) = _
    rw [or_i64 x y (by omega) (by omega)]
    congr 2
    simp only [decide_eq_decide]
    omega
end Go.Proofs.Ytkdfbmbccopchaa
