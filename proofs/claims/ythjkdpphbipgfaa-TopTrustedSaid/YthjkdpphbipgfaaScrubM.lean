/- What is left of a reply: plain lists of records. No program in sight. Conditions: none. -/
import Derived.Test.YthjkdpphbipgfaaRR
import Derived.Test.YthjkdpphbipgfaaRdM
import Derived.Test.YthjkdpphbipgfaaWithin
namespace Go.Proofs.Ythjkdpphbipgfaa
open Go.RowKit

abbrev RRec.nb (r : RRec) : Bs := r.n.data.toList
abbrev RRec.db (r : RRec) : Bs := r.d.data.toList
/-- Is the record right? -/
def chkR (r : RRec) : Bool := isName r.nb && (okD r.t r.db && (decide (r.l ≤ 2147483647) || decide (r.t = 41)))
/-- Does it stay? -/
def staysB (z : Bs) (r : RRec) : Bool := chkR r && (decide (r.c = 1) && (!decide (r.t = 41) && withinB r.nb z))
def leftL (z : Bs) (xs : List RRec) : List RRec := xs.filter (staysB z)
def namesR (r : RRec) : List Bs := ((lookN r.t r.db).map (·.2.1)).getD []
/-- The hosts that some records name. -/
def hostsL (xs : List RRec) : List Bs := (xs.filter fun r => decide (r.t = 2)).flatMap namesR
def isAddr (r : RRec) : Bool := decide (r.t = 1) || decide (r.t = 28)
def glueB (ns : List Bs) (r : RRec) : Bool := isAddr r && ns.any fun n => foldB n == foldB r.nb
def glueL (z : Bs) (s h e : List RRec) : List RRec := (leftL z e).filter (glueB (hostsL (leftL z (s ++ h))))
def goneN (z : Bs) (s h e : List RRec) : Nat := (s.length + h.length + e.length) - ((leftL z s).length + (leftL z h).length + (glueL z s h e).length)

theorem left_len (z : Bs) (xs : List RRec) : (leftL z xs).length ≤ xs.length := List.length_filter_le _ _
theorem glue_len (z : Bs) (s h e : List RRec) : (glueL z s h e).length ≤ e.length := Nat.le_trans (List.length_filter_le _ _) (left_len z e)
theorem left_append (z : Bs) (xs ys : List RRec) : leftL z (xs ++ ys) = leftL z xs ++ leftL z ys := by simp [leftL]
theorem left_again (z : Bs) (xs : List RRec) : leftL z (leftL z xs) = leftL z xs := by
  unfold leftL
  rw [List.filter_filter]
  simp
theorem hosts_append (xs ys : List RRec) : hostsL (xs ++ ys) = hostsL xs ++ hostsL ys := by simp [hostsL]
theorem stays_parts {z : Bs} {r : RRec} (h : staysB z r = true) : isName r.nb = true ∧ okD r.t r.db = true ∧ r.c = 1 ∧ r.t ≠ 41 ∧ withinB r.nb z = true := by
  unfold staysB chkR at h
  simp only [Bool.and_eq_true, decide_eq_true_eq, Bool.not_eq_true', decide_eq_false_iff_not] at h
  exact ⟨h.1.1, h.1.2.1, h.2.1, h.2.2.1, h.2.2.2⟩
theorem left_stays {z : Bs} {xs : List RRec} {r : RRec} (h : r ∈ leftL z xs) : r ∈ xs ∧ staysB z r = true := List.mem_filter.1 h
theorem glue_left {z : Bs} {s h e : List RRec} {r : RRec} (hr : r ∈ glueL z s h e) : r ∈ leftL z e := (List.mem_filter.1 hr).1
/-- Done again, nothing more goes. -/
theorem glue_again (z : Bs) (s h e : List RRec) : glueL z (leftL z s) (leftL z h) (glueL z s h e) = glueL z s h e := by
  unfold glueL
  rw [← left_append, left_again]
  have h1 : leftL z ((leftL z e).filter (glueB (hostsL (leftL z (s ++ h))))) = (leftL z e).filter (glueB (hostsL (leftL z (s ++ h)))) := by
    unfold leftL
    rw [List.filter_filter, List.filter_filter, List.filter_filter]
    congr 1
    funext r
    cases staysB z r <;> simp
  rw [h1, List.filter_filter]
  simp
theorem filter_len_le {α : Type} {p q : α → Bool} : ∀ {xs : List α}, (∀ x ∈ xs, p x = true → q x = true) → (xs.filter p).length ≤ (xs.filter q).length
  | [], _ => by simp
  | x :: xs, h => by
    have ih := filter_len_le (xs := xs) fun y hy => h y (by simp [hy])
    cases hp : p x with
    | true => have hq := h x (by simp) hp; simp [List.filter_cons, hp, hq, ih]
    | false => cases hq : q x <;> simp [List.filter_cons, hp, hq] <;> omega
/-- What a nearer zone leaves, a wider one leaves, too. -/
theorem nearer {c z : Bs} (hcz : ∀ a, withinB a c = true → withinB a z = true) (r : RRec) (h : staysB c r = true) : staysB z r = true := by
  unfold staysB at h ⊢
  simp only [Bool.and_eq_true] at h ⊢
  exact ⟨h.1, h.2.1, h.2.2.1, hcz _ h.2.2.2⟩
theorem nearer_gone {c z : Bs} (hcz : ∀ a, withinB a c = true → withinB a z = true) (s h e : List RRec) : goneN z s h e ≤ goneN c s h e := by
  have H := nearer hcz
  have h1 : (leftL c s).length ≤ (leftL z s).length := filter_len_le fun x _ => H x
  have h2 : (leftL c h).length ≤ (leftL z h).length := filter_len_le fun x _ => H x
  have h3 : (glueL c s h e).length ≤ (glueL z s h e).length := by
    unfold glueL leftL
    rw [List.filter_filter, List.filter_filter]
    refine filter_len_le fun x _ hx => ?_
    simp only [Bool.and_eq_true] at hx ⊢
    refine ⟨?_, H x hx.2⟩
    have := hx.1
    unfold glueB at this ⊢
    simp only [Bool.and_eq_true, List.any_eq_true] at this ⊢
    refine ⟨this.1, ?_⟩
    obtain ⟨n, hn, hf⟩ := this.2
    refine ⟨n, ?_, hf⟩
    unfold hostsL at hn ⊢
    rw [List.mem_flatMap] at hn ⊢
    obtain ⟨y, hy, hny⟩ := hn
    rw [List.mem_filter, List.mem_filter] at hy
    exact ⟨y, List.mem_filter.2 ⟨List.mem_filter.2 ⟨hy.1.1, H y hy.1.2⟩, hy.2⟩, hny⟩
  unfold goneN
  omega
end Go.Proofs.Ythjkdpphbipgfaa
