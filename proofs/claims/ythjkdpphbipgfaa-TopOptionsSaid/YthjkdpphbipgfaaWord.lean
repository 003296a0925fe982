/- The walks of package sip's word and of its reference's low. -/
import Derived.Test.YthjkdpphbipgfaaWordMath
import Derived.Test.YthjkdpphbipgfaaChecked
import Derived.WalkSpells
import Derived.WalkLawsBesides
import Derived.Outline
import Derived.Handy
import Derived.Deep.QuietTactic
import Derived.BigQuiet
import Derived.Deep.LoopGhost
namespace Go.Proofs.Ythjkdpphbipgfaa
open Go.RowKit

theorem word_any (s : ByteArray) (hs : s.size ≤ 8) (w : World) : Calls Try.prog 70 #[.string s] w fun e w' => e = .returned (.int .u64 (lowL s.data.toList : Int)) ∧ w = w' := by
  go_enter Try.func70, Try.ntmps70
  go_wp2
  go_loopg [3, 4, 7] s.size (fun g n c i wr => w = wr ∧ ∃ k : Nat, g + k = s.size ∧ i = .int .i64 (k : Int) ∧ n = .int .u64 (lowL (s.data.toList.take k) : Int))
  case atStart => exact ⟨rfl, 0, by omega, rfl, by simp [lowL]⟩
  case round =>
    obtain ⟨rfl, k, hk, rfl, rfl⟩ := hrel
    by_cases hlt : k < s.size
    · go_wp2
      go_roundg (s.size - (k + 1))
      case measure => omega
      case rel =>
        refine ⟨rfl, k + 1, by omega, by go_num, ?_⟩
        have hb := lowL_lt (s.data.toList.take k)
        rw [List.length_take, Nat.min_eq_left (by simp; omega)] at hb
        rw [or_byte _ _ _ hb (s[k]).toNat_lt (by omega), low_take s k hlt]
    · go_wp2
      go_ret
      exact ⟨reti (by rw [List.take_of_length_le (by simp; omega)]), rfl⟩

def valN (s : ByteArray) : Int := if s.size = 8 then (lowL s.data.toList : Int) else 0
def valE (s : ByteArray) : Int := if s.size = 8 then 0 else 2
theorem value_any (s : ByteArray) (_hs : s.size ≤ maxLen) (w : World) : Calls Try.prog 36 #[.string s] w fun e w' => e = .returned (.tuple #[.int .u64 (valN s), .int .i64 (valE s)]) ∧ w = w' := by
  unfold maxLen at _hs
  by_cases h : s.size = 8
  · have h2 : s.size ≤ 8 := by omega
    have h3 : ((s.size : Int) != 8) = false := by simp; omega
    have e1 : valN s = (lowL s.data.toList : Int) := if_pos h
    have e2 : valE s = 0 := if_pos h
    have E1 := Lib.hid e1
    have E2 := Lib.hid e2
    clear e1 e2 h
    go_enter Try.func36, Try.ntmps36
    go_wp2_with (go_at_call 70; refine (word_any _ h2 _).mono ?_; rintro e w' ⟨rfl, rfl⟩)
    go_ret2
    exact ⟨by rw [E1.out, E2.out]; rfl, rfl⟩
  · have h3 : ((s.size : Int) != 8) = true := by simp; omega
    have e1 : valN s = 0 := if_neg h
    have e2 : valE s = 2 := if_neg h
    have E1 := Lib.hid e1
    have E2 := Lib.hid e2
    clear e1 e2 h
    go_enter Try.func36, Try.ntmps36
    go_wp2_with (fail)
    go_ret2
    exact ⟨by rw [E1.out, E2.out]; rfl, rfl⟩
end Go.Proofs.Ythjkdpphbipgfaa
