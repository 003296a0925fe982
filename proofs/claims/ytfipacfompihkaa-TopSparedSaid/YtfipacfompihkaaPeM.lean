/- Peers of which only address, failures and rest are told; holding them against one another. Conditions: none. -/
import Derived.Test.YtfipacfompihkaaFlatV
import Derived.Test.YtfipacfompihkaaChecked
namespace Go.Proofs.Ytfipacfompihkaa
open Go.RowKit Go.Lib

structure Pe where
  a : Int
  f : Int
  r : Int
def Pe.vs (p : Pe) : List Value := [.int .u32 p.a, .string ⟨#[]⟩, .bool false, .int .i64 p.f, .int .i64 p.r]
def Pe.val (p : Pe) : Value := .agg #[.int .u32 p.a, .string ⟨#[]⟩, .bool false, .int .i64 p.f, .int .i64 p.r]
theorem Pe.five (p : Pe) : p.vs.length = 5 := rfl
/-- A slice that holds peers. -/
def PeS (w : World) (A : Option Addr) (c : Nat) (xs : List Pe) : Prop := Sl w 5 (.slice A xs.length c) xs.length (flatV Pe.vs xs)
theorem PeS.below {w w' : World} {A : Option Addr} {c : Nat} {xs : List Pe} (h : PeS w A c xs) (hb : Below w.heap.size w w') : PeS w' A c xs := Sl.below h hb h.lt
theorem PeS.cells {w : World} {A : Option Addr} {c : Nat} {xs : List Pe} (h : PeS w A c xs) {k : Nat} {e : Pe} (he : xs[k]? = some e) : ∃ b, A = some ⟨b, 0, none⟩ ∧ b < w.heap.size ∧
    w.cell? ⟨b, k * 5, none⟩ = some (.int .u32 e.a) ∧ w.cell? ⟨b, k * 5 + 1, none⟩ = some (.string ⟨#[]⟩) ∧ w.cell? ⟨b, k * 5 + 2, none⟩ = some (.bool false) ∧ w.cell? ⟨b, k * 5 + 3, none⟩ = some (.int .i64 e.f) ∧ w.cell? ⟨b, k * 5 + 4, none⟩ = some (.int .i64 e.r) := by
  have hk : k < xs.length := (List.getElem?_eq_some_iff.1 he).1
  obtain ⟨q, cap, hv, hq, _, _, hc⟩ := Sl.form h (by omega)
  injection hv with hA _ _
  subst hA
  have h0 : ∀ i v, e.vs[i]? = some v → (flatV Pe.vs xs)[k * 5 + i]? = some v := fun i v hi => flatV_at Pe.five xs k e i v he hi
  exact ⟨q, rfl, hq, hc _ _ (h0 0 _ rfl), hc _ _ (h0 1 _ rfl), hc _ _ (h0 2 _ rfl), hc _ _ (h0 3 _ rfl), hc _ _ (h0 4 _ rfl)⟩
/-- What two of xs are held against: they are equal. -/
def Even (cf : Nat) (xs : List Pe) : Prop := ∀ x ∈ xs, ∀ y ∈ xs, ∀ W, Calls Try.prog cf #[x.val, y.val] W fun e w' => e = .returned (.int .i64 0) ∧ Below W.heap.size W w'
theorem Even.call {cf : Nat} {xs : List Pe} (h : Even cf xs) {x y : Pe} (hx : x ∈ xs) (hy : y ∈ xs) {V : World} : ∀ W, Below V.heap.size V W → Calls Try.prog cf #[x.val, y.val] W fun e w' => e = .returned (.int .i64 0) ∧ Below V.heap.size V w' :=
  fun W hW => (h x hx y hy W).mono fun e w' ⟨h1, h2⟩ => ⟨h1, hW.trans (h2.mono hW.size)⟩
theorem nan_int (a : Int) (w : World) : Calls Try.prog 71 #[.int .i64 a] w fun e w' => e = .returned (.bool false) ∧ Below w.heap.size w w' := by
  go_enter Try.func71, Try.ntmps71
  go_wp2
  go_ret
  exact ⟨by simp, Below.refl _ _⟩
theorem nan_int64 (a : Int) (w : World) : Calls Try.prog 72 #[.int .i64 a] w fun e w' => e = .returned (.bool false) ∧ Below w.heap.size w w' := by
  go_enter Try.func72, Try.ntmps72
  go_wp2
  go_ret
  exact ⟨by simp, Below.refl _ _⟩
theorem cmp_int (a : Int) (w : World) : Calls Try.prog 35 #[.int .i64 a, .int .i64 a] w fun e w' => e = .returned (.int .i64 0) ∧ Below w.heap.size w w' := by
  have HN := Lib.hid (fun W => nan_int a W)
  have h1 : ¬ a < a := by omega
  go_enter Try.func35, Try.ntmps35
  go_wp2_with (fail)
  with_reducible refine (HN.out _).mono ?_
  rintro e w1 ⟨rfl, hb⟩
  have B1 := Lib.hid hb
  clear hb
  go_wp2_with (fail)
  with_reducible refine (HN.out _).mono ?_
  rintro e w2 ⟨rfl, hb⟩
  have B2 := Lib.hid (B1.out.trans (hb.mono B1.out.size))
  clear hb
  go_wp2_with (fail)
  go_ret
  exact ⟨rfl, B2.out⟩
theorem cmp_int64 (a : Int) (w : World) : Calls Try.prog 37 #[.int .i64 a, .int .i64 a] w fun e w' => e = .returned (.int .i64 0) ∧ Below w.heap.size w w' := by
  have HN := Lib.hid (fun W => nan_int64 a W)
  have h1 : ¬ a < a := by omega
  go_enter Try.func37, Try.ntmps37
  go_wp2_with (fail)
  with_reducible refine (HN.out _).mono ?_
  rintro e w1 ⟨rfl, hb⟩
  have B1 := Lib.hid hb
  clear hb
  go_wp2_with (fail)
  with_reducible refine (HN.out _).mono ?_
  rintro e w2 ⟨rfl, hb⟩
  have B2 := Lib.hid (B1.out.trans (hb.mono B1.out.size))
  clear hb
  go_wp2_with (fail)
  go_ret
  exact ⟨rfl, B2.out⟩
theorem even_f {xs : List Pe} (h : ∀ x ∈ xs, ∀ y ∈ xs, x.f = y.f) : Even 34 xs := by
  intro x hx y hy W
  have hc := fun V => cmp_int y.f V
  have HC := Lib.hid hc
  clear hc
  dsimp only [Pe.val]
  rw [h x hx y hy]
  go_enter Try.func34, Try.ntmps34
  go_wp2_with (fail)
  with_reducible refine (HC.out _).mono ?_
  rintro e w2 ⟨rfl, hb⟩
  go_wp2_with (fail)
  go_ret
  exact ⟨rfl, (((Below.refl _ _).alloc (Nat.le_refl _) _).alloc (by simp) _).trans (hb.mono (by simp; omega))⟩
theorem even_r {xs : List Pe} (h : ∀ x ∈ xs, ∀ y ∈ xs, x.r = y.r) : Even 36 xs := by
  intro x hx y hy W
  have hc := fun V => cmp_int64 y.r V
  have HC := Lib.hid hc
  clear hc
  dsimp only [Pe.val]
  rw [h x hx y hy]
  go_enter Try.func36, Try.ntmps36
  go_wp2_with (fail)
  with_reducible refine (HC.out _).mono ?_
  rintro e w2 ⟨rfl, hb⟩
  go_wp2_with (fail)
  go_ret
  exact ⟨rfl, (((Below.refl _ _).alloc (Nat.le_refl _) _).alloc (by simp) _).trans (hb.mono (by simp; omega))⟩
end Go.Proofs.Ytfipacfompihkaa
