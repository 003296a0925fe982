/- A writer with room: what Raw and Num do. -/
import Derived.Test.YtcphcgkbjlgkiaaWriterN
namespace Go.Proofs.Ytcphcgkbjlgkiaa
open Go.RowKit

theorem wput_fits {lim : Int} {l s : List UInt8} (h : (l.length + s.length : Int) ≤ lim) : wput lim false l s = (false, l ++ s) := by
  unfold wput; rw [if_neg (by simp), if_pos (.inr h)]
theorem raw_fits {K : Nat → Prop} {w : World} {b : Nat} {lim : Int} {m : Value} {l : List UInt8} (s : ByteArray) (h : Wr K w b lim false m l) (hfit : (l.length + s.size : Int) ≤ lim) (hlim : lim ≤ 140737488355328) :
    Calls Try.prog 53 #[.pointer (some ⟨b, 0, none⟩), .string s] w fun e w' => e = .returned (.tuple #[]) ∧ Wr K w' b lim false m (l ++ s.data.toList) ∧ KeepK K w w' := by
  have := wRaw_any s h (by omega) (by omega)
  rw [wput_fits (by simpa using hfit)] at this
  exact this
theorem num_fits {K : Nat → Prop} {w : World} {b : Nat} {lim : Int} {m : Value} {l : List UInt8} (k : Nat) (hk : k = 1 ∨ k = 2 ∨ k = 4 ∨ k = 8) (n : Nat) (hn : n ≤ 18446744073709551615) (h : Wr K w b lim false m l) (hfit : (l.length + k : Int) ≤ lim) (hlim : lim ≤ 140737488355000) :
    Calls Try.prog 54 #[.pointer (some ⟨b, 0, none⟩), .int .i64 (k : Int), .int .u64 (n : Int)] w fun e w' => e = .returned (.tuple #[]) ∧ Wr K w' b lim false m (l ++ bigB n k) ∧ KeepK K w w' := by
  have := wNum_any k hk n hn h (by omega) (by omega)
  rw [wput_fits (by rw [bigB_length]; exact hfit)] at this
  exact this
end Go.Proofs.Ytcphcgkbjlgkiaa
