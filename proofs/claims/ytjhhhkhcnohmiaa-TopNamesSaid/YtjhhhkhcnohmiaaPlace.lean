/- Rows of places (a name, and its labels, the last one first) in memory; the walk of walk.Sort's comparison. -/
import Derived.Test.YtjhhhkhcnohmiaaLess
import Derived.Test.YtjhhhkhcnohmiaaStab
namespace Go.Proofs.Ytjhhhkhcnohmiaa
open Go.RowKit Go.Lib

/-- A place: a name, and a slice that reads as L. -/
structure Pl where
  nm : ByteArray
  A : Option Addr
  c : Nat
  L : List Bs
def Pl.s (p : Pl) : Value := .slice p.A p.L.length p.c
def Pl.v (p : Pl) : Value := .agg #[.string p.nm, p.s]
def plC (ps : List Pl) : List Value := ps.flatMap fun p => [.string p.nm, p.s]
theorem plC_append (a b : List Pl) : plC (a ++ b) = plC a ++ plC b := by simp [plC]
theorem plC_length : ∀ ps : List Pl, (plC ps).length = ps.length * 2
  | [] => rfl
  | p :: ps => by
    have h : plC (p :: ps) = .string p.nm :: p.s :: plC ps := rfl
    rw [h, List.length_cons, List.length_cons, List.length_cons, plC_length ps]; omega
theorem plC_0 : ∀ {ps : List Pl} {j : Nat} {p : Pl}, ps[j]? = some p → (plC ps)[j * 2]? = some (.string p.nm)
  | q :: ps, 0, p, h => by cases h; rfl
  | q :: ps, j + 1, p, h => by
    rw [show (j + 1) * 2 = j * 2 + 1 + 1 by omega]
    exact plC_0 (ps := ps) (by simpa using h)
theorem plC_1 : ∀ {ps : List Pl} {j : Nat} {p : Pl}, ps[j]? = some p → (plC ps)[j * 2 + 1]? = some p.s
  | q :: ps, 0, p, h => by cases h; rfl
  | q :: ps, j + 1, p, h => by
    rw [show (j + 1) * 2 + 1 = j * 2 + 1 + 1 + 1 by omega]
    exact plC_1 (ps := ps) (by simpa using h)
theorem plC_set : ∀ (ps : List Pl) (i : Nat) (p : Pl), plC (ps.set i p) = ((plC ps).set (i * 2) (.string p.nm)).set (i * 2 + 1) p.s
  | [], i, p => by simp [plC]
  | e :: ps, 0, p => by simp [plC]
  | e :: ps, i + 1, p => by
    have h1 : plC (e :: ps) = .string e.nm :: e.s :: plC ps := rfl
    have h2 : plC ((e :: ps).set (i + 1) p) = .string e.nm :: e.s :: plC (ps.set i p) := rfl
    rw [h1, h2, plC_set ps i p, show (i + 1) * 2 = i * 2 + 1 + 1 by omega, List.set_cons_succ, List.set_cons_succ, List.set_cons_succ, List.set_cons_succ]
/-- All labels of all places lie beside the block g. -/
def PlOk (w : World) (g : Nat) (ps : List Pl) : Prop := ∀ p ∈ ps, TTab w p.A (strs p.L) ∧ (∀ a, p.A = some a → 0 < p.L.length → a.block ≠ g) ∧ p.L.length ≤ 1000000
theorem PlOk.mem {w : World} {g : Nat} {ps qs : List Pl} (h : PlOk w g ps) (hq : ∀ q ∈ qs, q ∈ ps) : PlOk w g qs := fun q hm => h q (hq q hm)
/-- What keeps all blocks but g keeps them. -/
theorem PlOk.keep {w w' : World} {g : Nat} {ps : List Pl} (h : PlOk w g ps) (hk : KeepK (fun i => i < w.heap.size ∧ i ≠ g) w w') : PlOk w' g ps := fun p hp => by
  obtain ⟨h1, h2, h3⟩ := h p hp
  refine ⟨fun hn => ?_, h2, h3⟩
  obtain ⟨b, o, hA, hlt, hc⟩ := h1 hn
  rw [strs_len] at hn
  have hb : b ≠ g := h2 _ hA hn
  refine ⟨b, o, hA, Nat.lt_of_lt_of_le hlt hk.size, fun j u hu => ?_⟩
  rw [World.cell?_of_block (a := ⟨b, o + j, none⟩) (hk.block b ⟨hlt, hb⟩)]
  exact hc j u hu

set_option maxRecDepth 100000 in
theorem cmpPl_any (p q : Pl) (w : World) (g : Nat) {ps : List Pl} (h : PlOk w g ps) (hp : p ∈ ps) (hq : q ∈ ps) :
    Calls Try.prog 69 #[p.v, q.v] w fun e w' => e = .returned (.int .i64 (cmpL p.L q.L)) ∧ Below w.heap.size w w' := by
  have hb : Below w.heap.size w ((w.alloc (.cells #[.string p.nm, p.s] 80)).alloc (.cells #[.string q.nm, q.s] 80)) := ((Below.refl _ _).alloc (Nat.le_refl _) _).alloc (by simp) _
  have HC := Lib.hid (compareL_any p.L q.L p.A q.A p.c q.c _ ((h p hp).1.below hb) ((h q hq).1.below hb) (h p hp).2.2 (h q hq).2.2)
  have HB := Lib.hid hb
  obtain ⟨z, hz⟩ : ∃ z, cmpL p.L q.L = z := ⟨_, rfl⟩
  rw [hz] at HC ⊢
  clear hb hz h hp hq
  unfold Pl.v Pl.s at *
  go_enter Try.func69, Try.ntmps69
  go_wp2_with (fail)
  refine HC.out.mono ?_
  rintro e w' ⟨rfl, rfl⟩
  go_wp2_with (fail)
  go_ret
  exact ⟨rfl, HB.out⟩
end Go.Proofs.Ytjhhhkhcnohmiaa
