/- The walk of the wheel's heap's up. Conditions: none. -/
import Derived.Test.YtkdijafnakpfhaaWheelS
import Derived.Deep.LoopGhost
namespace Go.Proofs.Ytkdijafnakpfhaa
open Go.RowKit Go.Lib

theorem HS.below {w w' : World} {g mb n c : Nat} {A : Option Addr} {xs : List Th} {f : Int → Option Nat} (h : HS w g mb A c xs f n) (hb : Below w.heap.size w w') : HS w' g mb A c xs f n := by
  obtain ⟨F, h1, h2⟩ := h.mp
  exact ⟨h.bx.below hb h.bx.lt, h.it.below hb h.it.lt, ⟨F, h1.below hb h1.lt, h2⟩, h.ne, h.pl, h.ok, h.nb⟩
theorem KeepH.refl (g mb : Nat) (A : Option Addr) (w : World) : KeepH g mb A w w := KeepK.refl _ _
theorem KeepH.trans {g mb : Nat} {A : Option Addr} {u v w : World} (h : KeepH g mb A u v) (k : KeepH g mb A v w) : KeepH g mb A u w :=
  KeepK.trans h (KeepK.mono k fun _ hb => ⟨Nat.lt_of_lt_of_le hb.1 h.size, hb.2⟩)
theorem KeepH.below_ {g mb : Nat} {A : Option Addr} {u v w : World} (h : KeepH g mb A u v) (k : Below v.heap.size v w) : KeepH g mb A u w := h.trans (KeepK.of_below k fun _ hb => hb.1)
/-- What a move of the heap leaves. -/
def MovP (g mb : Nat) (A : Option Addr) (c n : Nat) (xs : List Th) (w : World) (Q : List Th → Prop) (e : Ending) (w' : World) : Prop :=
  (∃ v, e = .returned v) ∧ ∃ ys f, HS w' g mb A c ys f n ∧ Q ys ∧ ys.length = xs.length ∧ (∀ x, x ∈ ys ↔ x ∈ xs) ∧ KeepH g mb A w w'

set_option maxRecDepth 100000 in
set_option maxHeartbeats 16000000 in
theorem up_any {w : World} {g mb n c : Nat} {A : Option Addr} {xs : List Th} {f : Int → Option Nat} (h : HS w g mb A c xs f n) (i : Nat) (hi : i < xs.length) (hu : UpI xs i) :
    Calls Try.prog 24 #[.pointer (some ⟨g, 0, none⟩), .int .i64 (i : Int)] w (MovP g mb A c n xs w HeapL) := by
  have H := Lib.hid (And.intro h (And.intro hi hu))
  clear h hi hu
  go_enter Try.func24, Try.ntmps24
  go_wp2_with (fail)
  go_loopg [1] (i + 1) (fun gg v1 wr => ∃ k : Nat, v1 = .int .i64 (k : Int) ∧ Aside (gg = k + 1) ∧ Aside (∃ ys f', HS wr g mb A c ys f' n ∧ UpI ys k ∧ k < ys.length ∧ ys.length = xs.length ∧ (∀ x, x ∈ ys ↔ x ∈ xs) ∧ KeepH g mb A w wr))
  case atStart => exact ⟨i, rfl, rfl, xs, f, H.out.1, H.out.2.2, H.out.2.1, rfl, fun _ => Iff.rfl, KeepH.refl _ _ _ _⟩
  case round =>
    obtain ⟨k, rfl, hg, hI⟩ := hrel
    obtain ⟨ys, f', hI⟩ : ∃ ys f', RowKit.Hid (HS wr g mb A c ys f' n ∧ UpI ys k ∧ k < ys.length ∧ ys.length = xs.length ∧ (∀ x, x ∈ ys ↔ x ∈ xs) ∧ KeepH g mb A w wr) := by
      obtain ⟨ys, f', h⟩ := hI.out
      exact ⟨ys, f', Lib.hid h⟩
    have hlen : ys.length ≤ 1000 := hI.out.1.nb.2
    have hkl := hI.out.2.2.1
    by_cases hk0 : 0 < k
    · have hkI : (0 : Int) < (k : Int) := by omega
      have hk1 : (1 : Int) ≤ (k : Int) := by omega
      have hkb : (k : Int) ≤ 1000 := by omega
      obtain ⟨p, hp⟩ : ∃ p, par k = p := ⟨_, rfl⟩
      have hpk : p < k := by rw [← hp]; exact par_lt hk0
      have hpv : ((k : Int) - 1) / 2 = (p : Int) := by rw [← hp]; unfold par; omega
      obtain ⟨q, rfl, hq, hqg, hqm, ck0, ck1, _, _⟩ := hI.out.1.at_ hkl
      obtain ⟨q', hq', _, _, _, cp0, cp1, _, _⟩ := hI.out.1.at_ (show p < ys.length by omega)
      injection hq' with hq'
      injection hq' with hq'
      subst hq'
      have g0 := hI.out.1.bx.cell 0
      have g2 := hI.out.1.bx.cell 2
      have hgl := hI.out.1.bx.lt
      have hkI2 : (k : Int) < (ys.length : Int) := by omega
      have hpI2 : (p : Int) < (ys.length : Int) := by omega
      obtain ⟨bb, hbb⟩ : ∃ bb, (ath ys k).ltB (ath ys p) = bb := ⟨_, rfl⟩
      have HB := Lib.hid (fun W => show Calls Try.prog 17 #[.agg #[.int .i64 (ath ys k).id, .int .i64 (ath ys k).t], .agg #[.int .i64 (ath ys p).id, .int .i64 (ath ys p).t]] W (fun e w' => e = .returned (.bool bb) ∧ Below W.heap.size W w') from by
        rw [← hbb]; exact before_any (ath ys k) (ath ys p) W)
      have HK := Lib.hid (And.intro hk0 (And.intro hp (And.intro hpk hbb)))
      obtain ⟨xk, hxk⟩ : ∃ x, ath ys k = x := ⟨_, rfl⟩
      obtain ⟨xp, hxp⟩ : ∃ x, ath ys p = x := ⟨_, rfl⟩
      rw [hxk] at HB ck0 ck1
      rw [hxp] at HB cp0 cp1
      have HKA : RowKit.Hid (∀ w', Below wr.heap.size wr w' → w'.cell? ⟨g, 0, none⟩ = some (.func (.func 17) #[] #[]) ∧ w'.cell? ⟨g, 2, none⟩ = some (.slice (some ⟨q, 0, none⟩) ys.length c) ∧ w'.cell? ⟨q, k * 2, none⟩ = some (.int .i64 xk.id) ∧ w'.cell? ⟨q, k * 2 + 1, none⟩ = some (.int .i64 xk.t) ∧ w'.cell? ⟨q, p * 2, none⟩ = some (.int .i64 xp.id) ∧ w'.cell? ⟨q, p * 2 + 1, none⟩ = some (.int .i64 xp.t)) := Lib.hid (fun w' hb =>
        ⟨(hb.cell (p := ⟨g, 0, none⟩) hgl).trans g0, (hb.cell (p := ⟨g, 2, none⟩) hgl).trans g2, (hb.cell (p := ⟨q, k * 2, none⟩) hq).trans ck0, (hb.cell (p := ⟨q, k * 2 + 1, none⟩) hq).trans ck1, (hb.cell (p := ⟨q, p * 2, none⟩) hq).trans cp0, (hb.cell (p := ⟨q, p * 2 + 1, none⟩) hq).trans cp1⟩)
      clear hk0 hp hpk hbb hxk hxp ck0 ck1 cp0 cp1 g0 g2 hkl hlen
      have R0 : Below wr.heap.size wr wr := Below.refl _ _
      go_wp2_with (fail)
      clear hpv hk1
      go_region_held3 (fun w' => w'.cell? ⟨g, 0, none⟩ = some (.func (.func 17) #[] #[]) ∧ w'.cell? ⟨g, 2, none⟩ = some (.slice (some ⟨q, 0, none⟩) ys.length c) ∧ w'.cell? ⟨q, k * 2, none⟩ = some (.int .i64 xk.id) ∧ w'.cell? ⟨q, k * 2 + 1, none⟩ = some (.int .i64 xk.t) ∧ w'.cell? ⟨q, p * 2, none⟩ = some (.int .i64 xp.id) ∧ w'.cell? ⟨q, p * 2 + 1, none⟩ = some (.int .i64 xp.t))
        (first | with_reducible assumption | with_reducible exact HKA.out _ R0 | with_reducible exact HKA.out _ R0.drew)
        (first | (go_at_call 17; (with_reducible refine (HB.out _).mono ?_); rintro e w6 ⟨rfl, hb6⟩; have hb6' : Below wr.heap.size wr w6 := (Below.refl wr.heap.size wr).drew.trans hb6; have hS6 := HKA.out _ hb6'; have H6 := Lib.hid hb6'; clear hb6 hb6'))
      clear hS6
      cases bb with
      | false =>
        go_wp2_with (fail)
        refine bodyPost_ret (results_none rfl _ _ _) rfl ?_
        obtain ⟨h1, h2, h3, h4, h5, h6⟩ := hI.out
        have hle := (Th.ltB_not _ _).1 HK.out.2.2.2
        exact ⟨⟨_, rfl⟩, ys, f', h1.below H6.out, up_done h2 (.inr (by rw [HK.out.2.1]; exact hle)), h4, h5, h6.below_ H6.out⟩
      | true =>
        have HSW := Lib.hid (swap_any (hI.out.1.below H6.out) k p hI.out.2.2.1 (by have := hI.out.2.2.1; have := HK.out.2.2.1; omega) (by have := HK.out.2.2.1; omega))
        go_wp2_with (go_at_call 25; refine HSW.out.mono ?_; rintro e w7 ⟨⟨v7, rfl⟩, h7, k7⟩; have H7 := Lib.hid (And.intro h7 k7); clear h7 k7)
        go_roundg (p + 1)
        case measure => have := hg.out; have := HK.out.2.2.1; omega
        case rel =>
          obtain ⟨h1, h2, h3, h4, h5, h6⟩ := hI.out
          have hlt := (Th.ltB_iff _ _).1 HK.out.2.2.2
          have hup := up_step h2 HK.out.1 h3 (by rw [HK.out.2.1]; exact hlt)
          rw [HK.out.2.1] at hup
          refine ⟨p, rfl, rfl, _, _, H7.out.1, hup, ?_, ?_, fun x => ?_, (h6.below_ H6.out).trans H7.out.2⟩
          · rw [swap_len]; have := HK.out.2.2.1; omega
          · rw [swap_len]; exact h4
          · rw [swap_mem h3 (by have := HK.out.2.2.1; omega)]; exact h5 x
    · have hkI : ¬ (0 : Int) < (k : Int) := by omega
      have hk00 : k = 0 := by omega
      subst hk00
      clear hk0 hkl hlen
      go_wp2_with (fail)
      refine bodyPost_end (results_none rfl _ _ _) rfl ?_
      obtain ⟨h1, h2, h3, h4, h5, h6⟩ := hI.out
      exact ⟨⟨_, rfl⟩, ys, f', h1, up_done h2 (.inl rfl), h4, h5, h6⟩
end Go.Proofs.Ytkdijafnakpfhaa
