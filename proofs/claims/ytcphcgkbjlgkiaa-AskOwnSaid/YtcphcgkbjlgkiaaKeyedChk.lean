/- The walk of the reference's Check of a hash. -/
import Derived.Test.YtcphcgkbjlgkiaaKeyedOf
namespace Go.Proofs.Ytcphcgkbjlgkiaa
open Go.RowKit Go.Lib

theorem is_no1 {e f : Entry} (h : ¬ e.key.toList = f.key.toList) : Entry.is e.key e.text f = false := by
  unfold Entry.is; rw [Bool.and_eq_false_iff]; left; exact beq_eq_false_iff_ne.2 fun h2 => h h2.symm
theorem is_no2 {e f : Entry} (h : (e.text.toList == f.text.toList) = false) : Entry.is e.key e.text f = false := by
  unfold Entry.is; rw [Bool.and_eq_false_iff]; right; exact beq_eq_false_iff_ne.2 fun h2 => beq_eq_false_iff_ne.1 h h2.symm
theorem is_yes {e f : Entry} (h : e.key.toList = f.key.toList) (h2 : (e.text.toList == f.text.toList) = true) : Entry.is e.key e.text f = true := by
  unfold Entry.is; rw [Bool.and_eq_true]; exact ⟨beq_iff_eq.2 h.symm, beq_iff_eq.2 (beq_iff_eq.1 h2).symm⟩

/-- The first k entries have right keys, and no two are of one key and text. -/
def SndTo (xs : List Entry) (k : Nat) : Prop := ∀ j e, j < k → xs[j]? = some e → e.key.size = 16 ∧ ∀ i f, i < j → xs[i]? = some f → Entry.is e.key e.text f = false
theorem SndTo.zero (xs : List Entry) : SndTo xs 0 := fun _ _ hj => absurd hj (Nat.not_lt_zero _)
theorem SndTo.succ {xs : List Entry} {k : Nat} {e : Entry} (h : SndTo xs k) (he : xs[k]? = some e) (h16 : e.key.size = 16) (hn : ∀ i f, i < k → xs[i]? = some f → Entry.is e.key e.text f = false) : SndTo xs (k + 1) := by
  intro j f hj hf
  by_cases hk : j = k
  · subst hk; rw [he] at hf; cases hf; exact ⟨h16, hn⟩
  · exact h j f (by omega) hf
/-- Check's answer. -/
def ChkIs (xs : List Entry) (v : Int) : Prop := (v = 0 ∧ xs.length ≤ 4096 ∧ SndTo xs xs.length) ∨ (v = 2 ∧ ¬ (xs.length ≤ 4096 ∧ SndTo xs xs.length))
theorem ChkIs.eq {xs : List Entry} {u v : Int} (h : ChkIs xs u) (h' : ChkIs xs v) : u = v := by
  rcases h with ⟨rfl, a⟩ | ⟨rfl, a⟩ <;> rcases h' with ⟨rfl, b⟩ | ⟨rfl, b⟩ <;> first | rfl | exact absurd a b | exact absurd b a
def ChkPost (xs : List Entry) (w : World) (e : Ending) (w' : World) : Prop := ∃ v, ChkIs xs v ∧ e = .returned (.int .i64 v) ∧ Below w.heap.size w w'

end Go.Proofs.Ytcphcgkbjlgkiaa
