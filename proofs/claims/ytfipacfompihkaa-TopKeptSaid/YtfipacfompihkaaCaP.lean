/- The walks of the cache's Put. Conditions: none. -/
import Derived.Test.YtfipacfompihkaaCaG
import Derived.Test.YtfipacfompihkaaSetsM
namespace Go.Proofs.Ytfipacfompihkaa
open Go.RowKit Go.Lib

def putE (n : ByteArray) (t l : Int) (xs : List ByteArray) (rk : Int) : En := ⟨n, t, l, xs, rk, false, false, 0⟩
def PutP (w : World) (g mb room m : Nat) (L : Nat → Prop) (V : Bs → Int → Option En) (n : ByteArray) (t l : Int) (xs : List ByteArray) (rk now : Int) (e : Ending) (w' : World) : Prop :=
  (setOk n t l xs = true ∧ t ≠ 0 ∧ HoldP w g mb room m L V (putE n t l xs rk) (min l 604800) now e w') ∨
    ((setOk n t l xs = false ∨ t = 0) ∧ e = .returned (.bool false) ∧ CaV w' g mb room m L V ∧ KeepK (fun i => i < w.heap.size ∧ ¬ L i ∧ i ≠ mb) w w')
theorem HoldP.later {w W : World} {g mb room m : Nat} {L : Nat → Prop} {V : Bs → Int → Option En} {h : En} {ttl now : Int} {e : Ending} {w' : World} (hb : Below w.heap.size w W) (h1 : HoldP W g mb room m L V h ttl now e w') : HoldP w g mb room m L V h ttl now e w' := by
  obtain ⟨a, ⟨L', c, d⟩, k⟩ := h1
  exact ⟨a, ⟨L', c, fun i hi => (d i hi).imp id fun h => Nat.le_trans hb.size h⟩, (KeepK.of_below hb fun i hi => hi.1).trans (k.mono fun i hi => ⟨Nat.lt_of_lt_of_le hi.1 hb.size, hi.2⟩)⟩
set_option maxRecDepth 100000 in
set_option maxHeartbeats 4000000 in
theorem put_any {w : World} {g mb room m : Nat} {L : Nat → Prop} {V : Bs → Int → Option En} (hC : CaV w g mb room m L V) (hm : m < room) (hr : room ≤ 4096) (n : ByteArray) (t l : Int) (A : Option Addr) (xs : List ByteArray) (c : Nat) (rk now : Int)
    (hn : n.size ≤ maxLen) (ht : 0 ≤ t ∧ t ≤ 65535) (hl : 0 ≤ l ∧ l ≤ 4294967295) (hT : STab w A xs) (hA : ∀ a, A = some a → 0 < xs.length → ¬ L a.block ∧ a.block ≠ mb) (hx : ∀ x ∈ xs, x.size ≤ maxLen) (hlen : xs.length ≤ 9223372036854775807) (hrk : 1 ≤ rk ∧ rk ≤ 4) (hnow : -9223372036854775808 ≤ now ∧ now ≤ 9223372036854775807) :
    Calls Try.prog 16 #[.pointer (some ⟨g, 0, none⟩), setV n t l A xs c, .int .u8 rk, .int .i64 now] w (PutP w g mb room m L V n t l xs rk now) := by
  have HK := Lib.hid (fun W (hW : Below w.heap.size w W) => checkS_any n t l A xs c W hn (hT.below hW) hx hlen)
  have HH := Lib.hid (fun W (hW : Below w.heap.size w W) (h64 : xs.length ≤ 64) => hold_any (hC.low hW) hm hr ⟨n, t, l, A, xs, c, rk, false, false, 0⟩ (hT.below hW) hA h64 hn ht hl (min l 604800) now (by omega) hnow)
  have HC := Lib.hid (And.intro hC hl)
  have hr1 : ¬ rk < 1 := by omega
  have hr2 : ¬ 4 < rk := by omega
  clear hC hm hr hn ht hl hT hA hx hlen hrk
  unfold setV at HK ⊢
  dsimp only [Th.found] at HH
  go_enter Try.func16, Try.ntmps16
  go_wp2_with (fail)
  obtain ⟨W1, hW1⟩ : ∃ W1, w.alloc (.cells #[.string n, .int .u16 t, .int .u32 l, .slice A xs.length c] 49) = W1 := ⟨_, rfl⟩
  have H1 := Lib.hid (show Below w.heap.size w W1 ∧ Blk W1 w.heap.size 49 #[.string n, .int .u16 t, .int .u32 l, .slice A xs.length c] from by
    rw [← hW1]
    exact ⟨(Below.refl _ _).alloc (Nat.le_refl _) _, Blk.new _ _ _⟩)
  rw [hW1]
  clear hW1
  with_reducible refine (HK.out _ H1.out.1).mono ?_
  rintro e w2 ⟨rfl, hb⟩
  have H2 := Lib.hid (And.intro (H1.out.1.trans (hb.mono H1.out.1.size)) (H1.out.2.below hb H1.out.2.lt))
  clear hb H1
  cases hok : setOk n t l xs with
  | false =>
    rw [setOk_not hok]
    have HN := Lib.hid (And.intro hok (And.intro (HC.out.1.low H2.out.1) H2.out.1))
    clear hok
    go_wp2_with (fail)
    go_ret
    exact .inr ⟨.inl HN.out.1, rfl, HN.out.2.1, KeepK.of_below HN.out.2.2 fun i hi => hi.1⟩
  | true =>
    rw [setOk_yes hok]
    have h64 : xs.length ≤ 64 := by
      unfold setOk at hok
      simp only [Bool.and_eq_true, decide_eq_true_eq] at hok
      exact hok.2.2.2.1
    have HHW := Lib.hid (HH.out _ H2.out.1 h64)
    have HOK := Lib.hid hok
    clear hok h64
    have s0 := H2.out.2.cell 0; have s1 := H2.out.2.cell 1; have s2 := H2.out.2.cell 2; have s3 := H2.out.2.cell 3
    by_cases ht0 : t = 0
    · subst ht0
      have HN := Lib.hid (And.intro (HC.out.1.low H2.out.1) H2.out.1)
      go_wp2_with (fail)
      go_ret
      exact .inr ⟨.inr rfl, rfl, HN.out.1, KeepK.of_below HN.out.2 fun i hi => hi.1⟩
    · have e0 : (t == 0) = false := by simp [ht0]
      have HT0 := Lib.hid ht0
      clear ht0
      obtain ⟨ml, hml⟩ : ∃ ml, min l 604800 = ml := ⟨_, rfl⟩
      rw [hml] at HHW
      go_wp2_with (fail)
      with_reducible refine HHW.out.mono ?_
      rintro e w3 hpost
      obtain ⟨z, hz⟩ : ∃ z, holds V (putE n t l xs rk) ml now = z := ⟨_, rfl⟩
      have HPO := Lib.hid hpost
      have HML := Lib.hid hml
      have he : e = .returned (.bool z) := by rw [← hz]; exact hpost.1
      subst he
      clear hpost HHW hml hz
      go_wp2_with (fail)
      go_ret
      exact .inl ⟨HOK.out, HT0.out, by rw [HML.out]; exact HPO.out.later H2.out.1⟩
end Go.Proofs.Ytfipacfompihkaa
