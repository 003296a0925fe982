/- The walk of the wheel's heap's down. Conditions: none. -/
import Derived.Test.YtkdijafnakpfhaaWheelU
namespace Go.Proofs.Ytkdijafnakpfhaa
open Go.RowKit Go.Lib

/-- Which of the thing at k and those below it, ahead of the place b, is the least. -/
def LstP (ys : List Th) (k b l : Nat) : Prop :=
  (l = k ∨ (par l = k ∧ 0 < l ∧ l < ys.length ∧ (ath ys l).lt (ath ys k))) ∧ (ath ys l).le (ath ys k) ∧ l < b ∧ ∀ c, 2 * k + 1 ≤ c → c < b → c < ys.length → (ath ys l).le (ath ys c)
theorem lst_start (ys : List Th) (k : Nat) : LstP ys k (2 * k + 1) k := ⟨.inl rfl, Th.le_refl _, by omega, fun c h1 h2 => by omega⟩
theorem lst_no {ys : List Th} {k b l : Nat} (h : LstP ys k b l) (hb : (ath ys b).ltB (ath ys l) = false) : LstP ys k (b + 1) l := by
  refine ⟨h.1, h.2.1, by have := h.2.2.1; omega, fun c h1 h2 h3 => ?_⟩
  by_cases hc : c = b
  · subst hc; exact (Th.ltB_not _ _).1 hb
  · exact h.2.2.2 c h1 (by omega) h3
theorem lst_yes {ys : List Th} {k b l : Nat} (h : LstP ys k b l) (hb : (ath ys b).ltB (ath ys l) = true) (hbk : 2 * k + 1 ≤ b) (hb2 : b ≤ 2 * k + 2) (hbl : b < ys.length) : LstP ys k (b + 1) b := by
  have hlt := (Th.ltB_iff _ _).1 hb
  refine ⟨.inr ⟨by unfold par; omega, by omega, hbl, ?_⟩, Th.le_trans hlt.le h.2.1, by omega, fun c h1 h2 h3 => ?_⟩
  · have := h.2.1
    unfold Th.lt at hlt ⊢
    unfold Th.le at this
    omega
  · by_cases hc : c = b
    · subst hc; exact Th.le_refl _
    · exact Th.le_trans hlt.le (h.2.2.2 c h1 (by omega) h3)
theorem lst_end {ys : List Th} {k b l : Nat} (h : LstP ys k b l) (he : ¬ (b ≤ 2 * k + 2 ∧ b < ys.length)) : ∀ c, 0 < c → c < ys.length → par c = k → (ath ys l).le (ath ys c) := by
  intro c h1 h2 h3
  unfold par at h3
  exact h.2.2.2 c (by omega) (by omega) h2

set_option maxRecDepth 100000 in
set_option maxHeartbeats 16000000 in
theorem down_any {w : World} {g mb n c : Nat} {A : Option Addr} {xs : List Th} {f : Int → Option Nat} (h : HS w g mb A c xs f n) (i : Nat) (hi : i < xs.length) (hu : DnI xs i) :
    Calls Try.prog 26 #[.pointer (some ⟨g, 0, none⟩), .int .i64 (i : Int)] w (MovP g mb A c n xs w (fun ys => UpI ys i)) := by
  have H := Lib.hid (And.intro h (And.intro hi hu))
  clear h hi hu
  go_enter Try.func26, Try.ntmps26
  go_wp2_with (fail)
  go_loopg [1] (xs.length + 1 - i) (fun gg v1 wr => ∃ k : Nat, v1 = .int .i64 (k : Int) ∧ Aside (gg + k = xs.length + 1) ∧ Aside (∃ ys f', HS wr g mb A c ys f' n ∧ DnI ys k ∧ (k = i ∨ (0 < k ∧ Okp ys k)) ∧ k < ys.length ∧ ys.length = xs.length ∧ (∀ x, x ∈ ys ↔ x ∈ xs) ∧ KeepH g mb A w wr))
  case atStart => exact ⟨i, rfl, (show _ = _ by have := H.out.2.1; omega), xs, f, H.out.1, H.out.2.2, .inl rfl, H.out.2.1, rfl, fun _ => Iff.rfl, KeepH.refl _ _ _ _⟩
  case round =>
    obtain ⟨k, rfl, hg, hI⟩ := hrel
    obtain ⟨ys, f', hI⟩ : ∃ ys f', RowKit.Hid (HS wr g mb A c ys f' n ∧ DnI ys k ∧ (k = i ∨ (0 < k ∧ Okp ys k)) ∧ k < ys.length ∧ ys.length = xs.length ∧ (∀ x, x ∈ ys ↔ x ∈ xs) ∧ KeepH g mb A w wr) := by
      obtain ⟨ys, f', h⟩ := hI.out
      exact ⟨ys, f', Lib.hid h⟩
    have hkl := hI.out.2.2.2.1
    have hlen : ys.length ≤ 1000 := hI.out.1.nb.2
    have hkb : (k : Int) ≤ 1000 := by omega
    have hk0 : (0 : Int) ≤ (k : Int) := by omega
    have hlI : (ys.length : Int) ≤ 1000 := by omega
    obtain ⟨q, rfl, hq, hqg, hqm, _, _, _, _⟩ := hI.out.1.at_ hkl
    have HAT := Lib.hid (fun (j : Nat) (hj : j < ys.length) => show wr.cell? ⟨q, j * 2, none⟩ = some (.int .i64 (ath ys j).id) ∧ wr.cell? ⟨q, j * 2 + 1, none⟩ = some (.int .i64 (ath ys j).t) from by
      obtain ⟨q', hq', _, _, _, c0, c1, _, _⟩ := hI.out.1.at_ hj
      injection hq' with hq'
      injection hq' with hq'
      subst hq'
      exact ⟨c0, c1⟩)
    have HBX := Lib.hid hI.out.1.bx
    have HQ := Lib.hid (And.intro hq (And.intro hkl hlen))
    clear hkl hlen hq hqg hqm
    go_wp2_with (fail)
    obtain ⟨wo, rfl⟩ : ∃ wo : World, wo = wr := ⟨_, rfl⟩
    go_loopg [4, 5] 3 (fun g2 v4 v5 ws => ∃ b l : Nat, v5 = .int .i64 (b : Int) ∧ v4 = .int .i64 (l : Int) ∧ 2 * k + 1 ≤ b ∧ b ≤ 2 * k + 3 ∧ Aside (g2 + b = 2 * k + 4) ∧ Aside (LstP ys k b l ∧ Below wo.heap.size wo ws))
    case atStart => exact ⟨2 * k + 1, k, by go_num, rfl, by omega, by omega, (show _ = _ by omega), lst_start ys k, Below.refl _ _⟩
    case round =>
      obtain ⟨b, l, rfl, rfl, hb1, hb3, hg2, hJ⟩ := hrel
      have g2 : wr.cell? ⟨g, 2, none⟩ = some (.slice (some ⟨q, 0, none⟩) ys.length c) := (hJ.out.2.cell (p := ⟨g, 2, none⟩) HBX.out.lt).trans (HBX.out.cell 2)
      have hlb : l < ys.length := by
        rcases hJ.out.1.1 with h | h
        · rw [h]; exact HQ.out.2.1
        · exact h.2.2.1
      by_cases hc : b ≤ 2 * k + 2 ∧ b < ys.length
      · obtain ⟨hc1, hc2⟩ := hc
        have t1 : (b : Int) ≤ 2 * (k : Int) + 2 := by omega
        have t2 : (b : Int) < (ys.length : Int) := by omega
        have t3 : (l : Int) < (ys.length : Int) := by omega
        obtain ⟨bb, hbb⟩ : ∃ bb, (ath ys b).ltB (ath ys l) = bb := ⟨_, rfl⟩
        have HB := Lib.hid (fun W => show Calls Try.prog 17 #[.agg #[.int .i64 (ath ys b).id, .int .i64 (ath ys b).t], .agg #[.int .i64 (ath ys l).id, .int .i64 (ath ys l).t]] W (fun e w' => e = .returned (.bool bb) ∧ Below W.heap.size W w') from by
          rw [← hbb]; exact before_any (ath ys b) (ath ys l) W)
        have cb := HAT.out b hc2
        have cl := HAT.out l hlb
        have HC := Lib.hid (And.intro hc1 (And.intro hc2 hbb))
        obtain ⟨xb, hxb⟩ : ∃ x, ath ys b = x := ⟨_, rfl⟩
        obtain ⟨xl, hxl⟩ : ∃ x, ath ys l = x := ⟨_, rfl⟩
        rw [hxb] at HB cb
        rw [hxl] at HB cl
        have HKA : RowKit.Hid (∀ w', Below wr.heap.size wr w' → w'.cell? ⟨g, 0, none⟩ = some (.func (.func 17) #[] #[]) ∧ w'.cell? ⟨g, 2, none⟩ = some (.slice (some ⟨q, 0, none⟩) ys.length c) ∧ w'.cell? ⟨q, b * 2, none⟩ = some (.int .i64 xb.id) ∧ w'.cell? ⟨q, b * 2 + 1, none⟩ = some (.int .i64 xb.t) ∧ w'.cell? ⟨q, l * 2, none⟩ = some (.int .i64 xl.id) ∧ w'.cell? ⟨q, l * 2 + 1, none⟩ = some (.int .i64 xl.t)) := Lib.hid (fun w' hb => by
          have hw : Below wo.heap.size wo w' := hJ.out.2.trans (hb.mono hJ.out.2.size)
          exact ⟨(hw.cell (p := ⟨g, 0, none⟩) HBX.out.lt).trans (HBX.out.cell 0), (hw.cell (p := ⟨g, 2, none⟩) HBX.out.lt).trans (HBX.out.cell 2), (hw.cell (p := ⟨q, b * 2, none⟩) HQ.out.1).trans cb.1, (hw.cell (p := ⟨q, b * 2 + 1, none⟩) HQ.out.1).trans cb.2, (hw.cell (p := ⟨q, l * 2, none⟩) HQ.out.1).trans cl.1, (hw.cell (p := ⟨q, l * 2 + 1, none⟩) HQ.out.1).trans cl.2⟩)
        have hbb2 : (b : Int) ≤ 3000 := by have := HQ.out.2.2; omega
        clear hc1 hc2 hbb hxb hxl cb cl hlb
        have R0 : Below wr.heap.size wr wr := Below.refl _ _
        go_wp2_with (fail)
        go_region_held3 (fun w' => w'.cell? ⟨g, 0, none⟩ = some (.func (.func 17) #[] #[]) ∧ w'.cell? ⟨g, 2, none⟩ = some (.slice (some ⟨q, 0, none⟩) ys.length c) ∧ w'.cell? ⟨q, b * 2, none⟩ = some (.int .i64 xb.id) ∧ w'.cell? ⟨q, b * 2 + 1, none⟩ = some (.int .i64 xb.t) ∧ w'.cell? ⟨q, l * 2, none⟩ = some (.int .i64 xl.id) ∧ w'.cell? ⟨q, l * 2 + 1, none⟩ = some (.int .i64 xl.t))
          (first | with_reducible assumption | with_reducible exact HKA.out _ R0 | with_reducible exact HKA.out _ R0.drew)
          (first | (go_at_call 17; (with_reducible refine (HB.out _).mono ?_); rintro e w6 ⟨rfl, hb6⟩; have hb6' : Below wr.heap.size wr w6 := (Below.refl wr.heap.size wr).drew.trans hb6; have hS6 := HKA.out _ hb6'; have H6 := Lib.hid hb6'; clear hb6 hb6'))
        clear hS6
        cases bb with
        | false =>
          go_wp2_with (fail)
          go_roundg (2 * k + 3 - b)
          case measure => have := hg2.out; omega
          case rel => exact ⟨b + 1, l, by go_num, rfl, by omega, by have := HC.out.1; omega, (show _ = _ by have := HC.out.1; omega), lst_no hJ.out.1 HC.out.2.2, hJ.out.2.trans (H6.out.mono hJ.out.2.size)⟩
        | true =>
          go_wp2_with (fail)
          go_roundg (2 * k + 3 - b)
          case measure => have := hg2.out; omega
          case rel => exact ⟨b + 1, b, by go_num, rfl, by omega, by have := HC.out.1; omega, (show _ = _ by have := HC.out.1; omega), lst_yes hJ.out.1 HC.out.2.2 hb1 HC.out.1 HC.out.2.1, hJ.out.2.trans (H6.out.mono hJ.out.2.size)⟩
      · have HE := Lib.hid (lst_end hJ.out.1 hc)
        have HJ := Lib.hid hJ.out
        have hlI2 : (l : Int) ≤ 1000 := by have := HQ.out.2.2; omega
        have HLB := Lib.hid hlb
        have fin : (∀ K : Prop, K → K) := fun _ h => h
        by_cases hlk : l = k
        · subst hlk
          have hend : MovP g mb (some ⟨q, 0, none⟩) c n xs w (fun ys => UpI ys i) (.returned (.tuple #[])) wr := by
            obtain ⟨h1, h2, h3, h4, h5, h6, h7⟩ := hI.out
            have hu := down_done h2 HE.out
            refine ⟨⟨_, rfl⟩, ys, f', h1.below HJ.out.2, ?_, h5, h6, h7.below_ HJ.out.2⟩
            rcases h3 with h3 | h3
            · rw [← h3]; exact hu
            · exact heap_up (heap_of_down hu fun _ => h3.2) i (by rw [h5]; exact H.out.2.1)
          have HEND := Lib.hid hend
          clear hend
          by_cases hb2 : b ≤ 2 * l + 2
          · have t1 : (b : Int) ≤ 2 * (l : Int) + 2 := by omega
            have t2 : ¬ (b : Int) < (ys.length : Int) := by omega
            clear hc hb2 hlb
            go_wp2_with (fail)
            refine bodyPost_ret (results_none rfl _ _ _) rfl ?_
            exact HEND.out
          · have t1 : ¬ (b : Int) ≤ 2 * (l : Int) + 2 := by omega
            clear hc hb2 hlb
            go_wp2_with (fail)
            refine bodyPost_ret (results_none rfl _ _ _) rfl ?_
            exact HEND.out
        · have hcs := hJ.out.1.1.resolve_left hlk
          have hne : ((l : Int) == (k : Int)) = false := by simp; omega
          have hkl2 : k < l := by have := par_lt hcs.2.1; omega
          have HSW := Lib.hid (swap_any (hI.out.1.below HJ.out.2) k l HQ.out.2.1 hlb (by omega))
          have HCS := Lib.hid (And.intro hcs hkl2)
          have hrel : ∀ w7, HS w7 g mb (some ⟨q, 0, none⟩) c (swapL ys k l) (putF (putF f' (ath ys l).id k) (ath ys k).id l) n → KeepH g mb (some ⟨q, 0, none⟩) wr w7 →
              ∃ k' : Nat, Value.int .i64 (l : Int) = .int .i64 (k' : Int) ∧ Aside (xs.length + 1 - l + k' = xs.length + 1) ∧ Aside (∃ ys f', HS w7 g mb (some ⟨q, 0, none⟩) c ys f' n ∧ DnI ys k' ∧ (k' = i ∨ (0 < k' ∧ Okp ys k')) ∧ k' < ys.length ∧ ys.length = xs.length ∧ (∀ x, x ∈ ys ↔ x ∈ xs) ∧ KeepH g mb (some ⟨q, 0, none⟩) w w7) := by
            intro w7 h7 k7
            obtain ⟨h1, h2, h3, h4, h5, h6, h8⟩ := hI.out
            have hst := down_step h2 HCS.out.1.2.1 HCS.out.1.2.2.1 HCS.out.1.1 HCS.out.1.2.2.2 HE.out
            refine ⟨l, rfl, (show _ = _ by have := HCS.out.1.2.2.1; omega), _, _, h7, hst.1, .inr ⟨HCS.out.1.2.1, hst.2.2⟩, ?_, ?_, fun x => ?_, (h8.below_ HJ.out.2).trans k7⟩
            · rw [swap_len]; exact HCS.out.1.2.2.1
            · rw [swap_len]; exact h5
            · rw [swap_mem h4 HCS.out.1.2.2.1]; exact h6 x
          have HREL := Lib.hid hrel
          clear hrel hcs hkl2
          by_cases hb2 : b ≤ 2 * k + 2
          · have t1 : (b : Int) ≤ 2 * (k : Int) + 2 := by omega
            have t2 : ¬ (b : Int) < (ys.length : Int) := by omega
            clear hc hb2 hlk hlb
            go_wp2_with (go_at_call 25; refine HSW.out.mono ?_; rintro e w7 ⟨⟨v7, rfl⟩, h7, k7⟩; have H7 := Lib.hid (And.intro h7 k7); clear h7 k7)
            go_roundg (xs.length + 1 - l)
            case measure => have := hg.out; have := HCS.out; have := hI.out.2.2.2.2.1; omega
            case rel => exact HREL.out _ H7.out.1 H7.out.2
          · have t1 : ¬ (b : Int) ≤ 2 * (k : Int) + 2 := by omega
            clear hc hb2 hlk hlb
            go_wp2_with (go_at_call 25; refine HSW.out.mono ?_; rintro e w7 ⟨⟨v7, rfl⟩, h7, k7⟩; have H7 := Lib.hid (And.intro h7 k7); clear h7 k7)
            go_roundg (xs.length + 1 - l)
            case measure => have := hg.out; have := HCS.out; have := hI.out.2.2.2.2.1; omega
            case rel => exact HREL.out _ H7.out.1 H7.out.2
end Go.Proofs.Ytkdijafnakpfhaa
