/- The walk of hardtacklaw07.small. Conditions: none. -/
import Derived.Test.YthjkdpphbipgfaaEdSame
namespace Go.Proofs.Ythjkdpphbipgfaa
open Go.RowKit Go.Shelf Go.Lib

def SmallE (xs : List Opt) : Prop := xs.length ≤ 60 ∧ ∀ o ∈ xs, o.d.size ≤ 16384
def Small07Post (xs : List Opt) (w : World) (e : Ending) (w' : World) : Prop := ∃ b, e = .returned (.bool b) ∧ (b = true → SmallE xs) ∧ Below w.heap.size w w'
set_option maxRecDepth 100000 in
set_option maxHeartbeats 2000000 in
theorem small07_any (th : Bool) (sz hi ve fl : Int) (A : Option Addr) (xs : List Opt) (c : Nat) (w : World) (hT : OTab w A xs) (hc : xs.length ≤ c ∧ c ≤ maxLen) :
    Calls Try.prog 23 #[ednsV th sz hi ve fl A xs.length c] w (Small07Post xs w) := by
  have hlI : (xs.length : Int) ≤ 9223372036854775807 := by have := hc.2; unfold maxLen at this; omega
  have HT := Lib.hid hT
  clear hT hc
  unfold ednsV
  go_enter Try.func23, Try.ntmps23
  go_wp2_with (fail)
  obtain ⟨w1, hw1⟩ : ∃ w1, w.alloc (.cells #[.bool th, .int .u16 sz, .int .u8 hi, .int .u8 ve, .int .u16 fl, .slice A xs.length c] 45) = w1 := ⟨_, rfl⟩
  have hB : Blk w1 w.heap.size 45 #[.bool th, .int .u16 sz, .int .u8 hi, .int .u8 ve, .int .u16 fl, .slice A xs.length c] := by rw [← hw1]; exact Blk.new _ _ _
  have hb1 : Below w.heap.size w w1 := by rw [← hw1]; exact (Below.refl _ _).alloc (Nat.le_refl _) _
  have H1 := Lib.hid (And.intro hB (And.intro hb1 (HT.out.below hb1)))
  rw [hw1]
  clear hw1 hB hb1
  go_loopg [4, 8] (xs.length + 1) (fun gg v4 v8 wr => ∃ k : Nat, v8 = .int .i64 (k : Int) ∧ k ≤ xs.length ∧ gg + k = xs.length + 1 ∧ Aside (∀ o ∈ xs.take k, o.d.size ≤ 16384) ∧ Aside (Below w1.heap.size w1 wr))
  case atStart => exact ⟨0, rfl, Nat.zero_le _, rfl, (show ∀ o ∈ xs.take 0, o.d.size ≤ 16384 from fun o ho => by simp at ho), Below.refl _ _⟩
  case round =>
    obtain ⟨k, rfl, hk, hgk, hS, hb⟩ := hrel
    by_cases hlt : k < xs.length
    · have hltI : (k : Int) < (xs.length : Int) := by omega
      obtain ⟨o, ho⟩ : ∃ o, xs[k]? = some o := ⟨_, List.getElem?_eq_getElem hlt⟩
      obtain ⟨B, off, rfl, hBl, d0, d1⟩ := (H1.out.2.2.below hb.out).cells ho
      have hod : o.d.size ≤ maxLen := (HT.out.1 o (List.mem_of_getElem? ho)).2
      have hodI : (o.d.size : Int) ≤ 9223372036854775807 := by unfold maxLen at hod; omega
      have HO := Lib.hid ho
      clear ho hlt hod
      by_cases hbig : 16384 < o.d.size
      · have hbI : (16384 : Int) < (o.d.size : Int) := by omega
        clear hbig
        go_wp2_with (fail)
        go_ret
        exact ⟨false, rfl, (fun h => by cases h), H1.out.2.1.trans ((hb.out.trans (((Below.refl _ _).alloc (Nat.le_refl _) _).mono hb.out.size)).mono H1.out.2.1.size)⟩
      · have hbI : ¬ (16384 : Int) < (o.d.size : Int) := by omega
        have HB := Lib.hid hbig
        clear hbig
        go_wp2_with (fail)
        go_roundg (xs.length + 1 - (k + 1))
        case measure => omega
        case rel =>
          refine ⟨k + 1, by go_num, by omega, by omega, (show ∀ o ∈ xs.take (k + 1), o.d.size ≤ 16384 from fun x hx => ?_), hb.out.trans (((Below.refl _ _).alloc (Nat.le_refl _) _).mono hb.out.size)⟩
          obtain ⟨h1, h2⟩ := List.getElem?_eq_some_iff.1 HO.out
          rw [List.take_succ_eq_append_getElem h1, h2] at hx
          rcases List.mem_append.1 hx with hx | hx
          · exact hS.out x hx
          · rw [List.mem_singleton.1 hx]; have := HB.out; omega
    · obtain rfl : k = xs.length := by omega
      have hc5 := (H1.out.1.below hb.out H1.out.1.lt).cell 5
      clear hlt
      rw [List.take_length] at hS
      by_cases hbig : xs.length ≤ 60
      · have hbI : (xs.length : Int) ≤ 60 := by omega
        have HB := Lib.hid hbig
        clear hbig
        go_wp2_with (fail)
        go_ret
        exact ⟨true, by simp, (fun _ => ⟨HB.out, hS.out⟩), H1.out.2.1.trans (hb.out.mono H1.out.2.1.size)⟩
      · have hbI : ¬ (xs.length : Int) ≤ 60 := by omega
        clear hbig
        go_wp2_with (fail)
        go_ret
        exact ⟨false, by simp, (fun h => by cases h), H1.out.2.1.trans (hb.out.mono H1.out.2.1.size)⟩
end Go.Proofs.Ythjkdpphbipgfaa
