/- The walks of hardtackref07's Cookies and hardtackref11's Accept. The walk of hardtackref11's Accept. -/
import Derived.Test.YtcphcgkbjlgkiaaAccept
namespace Go.Proofs.Ytcphcgkbjlgkiaa
open Go.RowKit Go.Lib

theorem find_at {xs : List Opt} {k : Nat} {o : Opt} (hk : xs[k]? = some o) (hp : Opt.is 10 o = true) (hn : ∀ j f, j < k → xs[j]? = some f → Opt.is 10 f = false) : xs.find? (Opt.is 10) = some o := by
  obtain ⟨hlt, hx⟩ := List.getElem?_eq_some_iff.1 hk
  rw [List.find?_eq_some_iff_getElem]
  refine ⟨hp, k, hlt, hx, fun j hj => ?_⟩
  rw [hn j _ hj (List.getElem?_eq_getElem (by omega))]; rfl
theorem find_not {xs : List Opt} (hn : ∀ j f, j < xs.length → xs[j]? = some f → Opt.is 10 f = false) : xs.find? (Opt.is 10) = none := by
  rw [List.find?_eq_none]
  intro x hx
  obtain ⟨j, hj, rfl⟩ := List.getElem_of_mem hx
  rw [hn j _ hj (List.getElem?_eq_getElem hj)]; simp

set_option maxRecDepth 100000 in
set_option maxHeartbeats 2000000 in
theorem rCookies_any (th : Bool) (sz hi ve fl : Int) (A : Option Addr) (xs : List Opt) (m : Nat) (w : World) (hT : OTab w A xs) (hn : xs.length ≤ 9223372036854775807) :
    Calls Try.prog 51 #[.agg #[.bool th, .int .u16 sz, .int .u8 hi, .int .u8 ve, .int .u16 fl, .slice A xs.length m]] w fun e w' => e = .returned (.tuple #[.string (ckR xs).1, .string (ckR xs).2.1, .int .i64 (ckR xs).2.2]) ∧ Below w.heap.size w w' := by
  have HT := Lib.hid hT
  clear hT
  go_enter Try.func51, Try.ntmps51
  go_wp2_with (fail)
  go_loopg [11] xs.length (fun gg s8 wr => ∃ kk : Nat, kk ≤ xs.length ∧ xs.length - kk ≤ gg ∧ s8 = .int .i64 kk ∧ Aside (Below w.heap.size w wr) ∧ Aside (∀ j f, j < kk → xs[j]? = some f → Opt.is 10 f = false))
  case atStart => exact ⟨0, Nat.zero_le _, by omega, rfl, (Below.refl _ w).alloc (Nat.le_refl _) _, fun j _ hj => absurd hj (Nat.not_lt_zero _)⟩
  case round =>
    obtain ⟨kk, hkk, hg, rfl, BW, AA⟩ := hrel
    by_cases hlt : kk < xs.length
    · have hltz : (kk : Int) < (xs.length : Int) := by omega
      have HTr := HT.out.below BW.out
      obtain ⟨b, off, rfl, hbs, hc⟩ := HTr.2 (by omega)
      obtain ⟨o, he⟩ : ∃ o, xs[kk]? = some o := ⟨_, List.getElem?_eq_getElem hlt⟩
      have c0 : wr.cell? ⟨b, off + kk * 2, none⟩ = some (.int .u16 o.c) := hc kk o he 0 _ rfl
      have c1 : wr.cell? ⟨b, off + kk * 2 + 1, none⟩ = some (.string o.d) := hc kk o he 1 _ rfl
      have hds : o.d.size ≤ maxLen := (HTr.1 o (List.mem_of_getElem? he)).2
      have HE := Lib.hid (And.intro he hds)
      have HB1 := Lib.hid (BW.out.alloc BW.out.size (.cells #[.int .u16 o.c, .string o.d] 103))
      clear hc HTr
      cases hq : Opt.is 10 o with
      | false =>
        have hq2 : (o.c != 10) = true := by have h3 : (o.c == 10) = false := hq; unfold bne; rw [h3]; rfl
        have HQ := Lib.hid hq
        clear hq he hds
        go_wp2_with (fail)
        go_roundg (xs.length - (kk + 1))
        case measure => omega
        case rel =>
          refine ⟨kk + 1, by omega, by omega, by go_num, HB1.out, (show Aside _ from fun j f hj hf => ?_)⟩
          by_cases h : j = kk
          · subst h
            rw [HE.out.1] at hf
            cases hf
            exact HQ.out
          · exact AA.out j f (by omega) hf
      | true =>
        have hq2 : (o.c != 10) = false := by have h3 : (o.c == 10) = true := hq; unfold bne; rw [h3]; rfl
        have HX := Lib.hid (find_at he hq AA.out)
        clear hq he AA
        by_cases h8 : o.d.size ≤ 8
        · have h8I : (o.d.size : Int) ≤ 8 := by omega
          have HRR := Lib.hid (ckR_of HX.out (ck_small h8).1 (ck_small h8).2)
          clear h8
          have HDS := Lib.hid hds
          have hcl := fun W => (rright_any o.d ByteArray.empty HE.out.2 (by decide) W).mono fun _ _ h => And.intro h.1 h.2.symm
          cases hr : rightB o.d ByteArray.empty
          all_goals
            rw [hr] at hcl
            have e1 := HRR.out
            rw [hr] at e1
            have E1 := Lib.hid e1
            have HCL := Lib.hid hcl
            clear e1 hr hcl
            go_wp2_with (fail)
            go_quiet ((go_at_call 88; refine Calls.quiet_of_same (HCL.out _)))
            go_wp2_with (fail)
            try go_quiet (fail)
            try go_wp2_with (fail)
            go_ret3
            exact ⟨by rw [E1.out]; rfl, by first | exact below_drewN HB1.out _ | exact below_drewN (below_drewN HB1.out _) _⟩
        · have h8I : ¬ (o.d.size : Int) ≤ 8 := by omega
          have h8J : (8 : Int) ≤ (o.d.size : Int) := by omega
          have hdI : (o.d.size : Int) ≤ 9223372036854775807 := by unfold maxLen at hds; omega
          have HRR := Lib.hid (ckR_of HX.out (ck_big h8).1 (ck_big h8).2)
          clear h8
          have HDS := Lib.hid hds
          have hcl := fun W => (rright_any (o.d.extract 0 8) (o.d.extract 8 o.d.size) (by rw [ByteArray.size_extract]; unfold maxLen; omega) (by rw [ByteArray.size_extract]; have := HE.out.2; omega) W).mono fun _ _ h => And.intro h.1 h.2.symm
          cases hr : rightB (o.d.extract 0 8) (o.d.extract 8 o.d.size)
          all_goals
            rw [hr] at hcl
            have e1 := HRR.out
            rw [hr] at e1
            have E1 := Lib.hid e1
            have HCL := Lib.hid hcl
            clear e1 hr hcl
            go_wp2_with (fail)
            go_quiet ((go_at_call 88; refine Calls.quiet_of_same (HCL.out _)))
            go_wp2_with (fail)
            try go_quiet (fail)
            try go_wp2_with (fail)
            go_ret3
            exact ⟨by rw [E1.out]; rfl, by first | exact below_drewN HB1.out _ | exact below_drewN (below_drewN HB1.out _) _⟩
    · obtain rfl : kk = xs.length := by omega
      have hr : ckR xs = (⟨#[]⟩, ⟨#[]⟩, 3) := by unfold ckR; rw [find_not AA.out]
      have HR := Lib.hid hr
      clear hlt hr
      go_wp2_with (fail)
      go_ret3
      exact ⟨by rw [HR.out]; rfl, BW.out⟩
end Go.Proofs.Ytcphcgkbjlgkiaa

namespace Go.Proofs.Ytcphcgkbjlgkiaa
open Go.RowKit Go.Lib

theorem ckR_three (xs : List Opt) : (ckR xs).2.2 = 3 → (ckR xs).2.1 = ⟨#[]⟩ := by
  unfold ckR
  split
  · intro _; rfl
  · split
    · intro h; exact absurd (show (0 : Int) = 3 from h) (by decide)
    · intro h; exact absurd (show (2 : Int) = 3 from h) (by decide)

set_option maxRecDepth 100000 in
set_option maxHeartbeats 1000000 in
theorem rAccept_any (sent : ByteArray) (enf th : Bool) (sz hi ve fl : Int) (A : Option Addr) (xs : List Opt) (m : Nat) (w : World) (hT : OTab w A xs) (hn : xs.length ≤ 9223372036854775807) :
    Calls Try.prog 25 #[.string sent, .bool enf, .agg #[.bool th, .int .u16 sz, .int .u8 hi, .int .u8 ve, .int .u16 fl, .slice A xs.length m]] w fun e w' => e = .returned (.tuple #[.string (acR sent enf (ckR xs)).1, .int .i64 (acR sent enf (ckR xs)).2]) ∧ Below w.heap.size w w' := by
  have hb0 : Below w.heap.size w (w.alloc (.cells #[.bool th, .int .u16 sz, .int .u8 hi, .int .u8 ve, .int .u16 fl, .slice A xs.length m] 43)) := (Below.refl _ _).alloc (Nat.le_refl _) _
  have hC := rCookies_any th sz hi ve fl A xs m _ (hT.below hb0) hn
  have hcase := ckR_cases xs
  have h3 := ckR_three xs
  generalize hq : ckR xs = r at hC hcase h3 ⊢
  obtain ⟨c, sv, n⟩ := r
  dsimp only at hC hcase h3
  have HC := Lib.hid hC
  have HB := Lib.hid hb0
  clear hC hb0 hT hq
  rcases hcase with rfl | rfl | rfl
  · clear h3
    have hr : acR sent enf (c, sv, 2) = (⟨#[]⟩, 2) := rfl
    rw [hr]
    clear hr
    go_enter Try.func25, Try.ntmps25
    go_wp2_with (fail)
    with_reducible refine HC.out.mono ?_
    rintro e w1 ⟨rfl, hb⟩
    go_wp2_with (fail)
    go_ret2
    exact ⟨rfl, HB.out.trans (hb.mono HB.out.size)⟩
  · clear h3
    cases hq : (c.toList == sent.toList)
    · have hr : acR sent enf (c, sv, 0) = (⟨#[]⟩, 6) := by unfold acR; simp [hq]
      have hq2 : (c.toList != sent.toList) = true := by unfold bne; rw [hq]; rfl
      rw [hr]
      clear hr
      go_enter Try.func25, Try.ntmps25
      go_wp2_with (fail)
      with_reducible refine HC.out.mono ?_
      rintro e w1 ⟨rfl, hb⟩
      go_wp2_with (fail)
      go_ret2
      exact ⟨rfl, HB.out.trans (hb.mono HB.out.size)⟩
    · have hr : acR sent enf (c, sv, 0) = (sv, 0) := by unfold acR; simp [hq]
      have hq2 : (c.toList != sent.toList) = false := by unfold bne; rw [hq]; rfl
      rw [hr]
      clear hr
      go_enter Try.func25, Try.ntmps25
      go_wp2_with (fail)
      with_reducible refine HC.out.mono ?_
      rintro e w1 ⟨rfl, hb⟩
      go_wp2_with (fail)
      go_ret2
      exact ⟨rfl, HB.out.trans (hb.mono HB.out.size)⟩
  · obtain rfl := h3 rfl
    cases enf
    · have hr : acR sent false (c, ⟨#[]⟩, 3) = (⟨#[]⟩, 0) := rfl
      rw [hr]
      clear hr
      go_enter Try.func25, Try.ntmps25
      go_wp2_with (fail)
      with_reducible refine HC.out.mono ?_
      rintro e w1 ⟨rfl, hb⟩
      go_wp2_with (fail)
      go_ret2
      exact ⟨rfl, HB.out.trans (hb.mono HB.out.size)⟩
    · have hr : acR sent true (c, ⟨#[]⟩, 3) = (⟨#[]⟩, 3) := rfl
      rw [hr]
      clear hr
      go_enter Try.func25, Try.ntmps25
      go_wp2_with (fail)
      with_reducible refine HC.out.mono ?_
      rintro e w1 ⟨rfl, hb⟩
      go_wp2_with (fail)
      go_ret2
      exact ⟨rfl, HB.out.trans (hb.mono HB.out.size)⟩
end Go.Proofs.Ytcphcgkbjlgkiaa
