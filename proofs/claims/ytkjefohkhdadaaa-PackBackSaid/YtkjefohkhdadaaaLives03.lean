/- The walk of hardtacklaw03.lives. Conditions: none. -/
import Derived.Test.YtkjefohkhdadaaaReadPart
namespace Go.Proofs.Ytkjefohkhdadaaa
open Go.RowKit Go.Lib

def nA : Bs := [1, 97, 3, 111, 114, 103, 0]
def nB : Bs := [1, 98, 3, 111, 114, 103, 0]
def W1 : Bs × Rests := wname true (labs nA).1 [2, 3] (fun _ => none)
def W2 : Bs × Rests := wname true (labs nB).1 W1.1 W1.2
def W3 : Bs × Rests := wname true (labs [0]).1 W2.1 W2.2
theorem w1_ok : OkR W1.1 W1.2 := by
  obtain ⟨t, h1, _, _, _, h2⟩ := wname_more (pt := true) (ls := (labs nA).1) (l := [2, 3]) (R := fun _ => none) (labs_ok _) (OkR.none _)
  unfold W1; rw [h1]; exact h2
theorem w2_ok : OkR W2.1 W2.2 := by
  obtain ⟨t, h1, _, _, _, h2⟩ := wname_more (pt := true) (ls := (labs nB).1) (labs_ok _) w1_ok
  unfold W2; rw [h1]; exact h2
theorem w1_b : W1.1 = [2, 3, 1, 97, 3, 111, 114, 103, 0] := by decide +kernel
theorem w2_b : W2.1 = [2, 3, 1, 97, 3, 111, 114, 103, 0, 1, 98, 192, 4] := by decide +kernel
theorem w3_b : W3.1 = [2, 3, 1, 97, 3, 111, 114, 103, 0, 1, 98, 192, 4, 0] := by decide +kernel
def sB : Bs := [0, 7, 1, 97, 3, 111, 114, 103, 0, 1, 98, 192, 4, 0]
theorem w3_set : setB W3.1 0 7 = sB := by rw [w3_b]; decide +kernel
theorem rd1 : nread sB 2 = (nA, some 9) := by decide +kernel
theorem rd2 : nread sB 9 = (nB, some 13) := by decide +kernel
theorem rd3 : nread sB 13 = ([0], some 14) := by decide +kernel
theorem is1 : isName nA = true := by decide +kernel
theorem is2 : isName nB = true := by decide +kernel
theorem is3 : isName [0] = true := by decide +kernel
theorem big_66051 : bigB 66051 2 = [2, 3] := by decide +kernel

set_option maxRecDepth 100000 in
set_option maxHeartbeats 8000000 in
theorem lives03 (w : World) : Calls Try.prog 12 #[] w fun e w' => e = .returned (.bool true) ∧ Below w.heap.size w w' := by
  have HN := Lib.hid (wn_new 40 w)
  go_enter Try.func12, Try.ntmps12
  go_wp2_with (fail)
  with_reducible refine HN.out.mono ?_
  rintro e w1 ⟨b, mb, rfl, h, hb⟩
  have F1 := Lib.hid (And.intro h hb)
  have HP := Lib.hid (num_fits 2 (.inr (.inl rfl)) 66051 (by decide) h.1 (by decide) (by decide))
  clear h hb HN
  go_wp2_with (fail)
  refine HP.out.mono ?_
  rintro e w2 ⟨rfl, h, hk⟩
  rw [big_66051] at h
  have F2 := Lib.hid (And.intro (F1.out.1.turn h hk) ((KeepK.of_below F1.out.2 (K := fun i => i < w.heap.size) (fun i hi => hi)).trans (hk.mono fun i hi => .inl hi)))
  have HA := Lib.hid (wName_any ⟨#[1, 97, 3, 111, 114, 103, 0]⟩ is1 F2.out.1 (by decide) (by decide) (by decide) (fun k p h => by cases h))
  clear h hk HP F1
  go_wp2_with (fail)
  with_reducible refine HA.out.mono ?_
  rintro e w3 ⟨rfl, ⟨c3, hc3, h⟩, hk⟩
  have F3 := Lib.hid (And.intro (show Wn (fun i => i < w.heap.size) w3 b mb c3 40 W1.1 W1.2 from h) (And.intro hc3 (F2.out.2.trans hk)))
  have HB := Lib.hid (wName_any ⟨#[1, 98, 3, 111, 114, 103, 0]⟩ is2 F3.out.1 (by rw [w1_b]; decide) (by decide) (by omega) (fun k p h => (w1_ok k p h).1))
  clear h hk hc3 HA F2
  go_wp2_with (fail)
  with_reducible refine HB.out.mono ?_
  rintro e w4 ⟨rfl, ⟨c4, hc4, h⟩, hk⟩
  have F4 := Lib.hid (And.intro (show Wn (fun i => i < w.heap.size) w4 b mb c4 40 W2.1 W2.2 from h) (And.intro (show c4 ≤ 510 by have := F3.out.2.1; omega) (F3.out.2.2.trans hk)))
  have HC := Lib.hid (wName_any ⟨#[0]⟩ is3 F4.out.1 (by rw [w2_b]; decide) (by decide) (by have := F4.out.2.1; omega) (fun k p h => (w2_ok k p h).1))
  clear h hk hc4 HB F3
  go_wp2_with (fail)
  with_reducible refine HC.out.mono ?_
  rintro e w5 ⟨rfl, ⟨c5, _, h⟩, hk⟩
  have h' : Wn (fun i => i < w.heap.size) w5 b mb c5 40 W3.1 W3.2 := h
  have HS := Lib.hid (wSet_any h'.1 0 7 (by rw [w3_b]; decide) (by rw [w3_b]; decide) (by decide))
  have F5 := Lib.hid (And.intro h' (F4.out.2.2.trans hk))
  clear h h' hk HC F4
  go_wp2_with (fail)
  refine HS.out.mono ?_
  rintro e w6 ⟨rfl, h, hk⟩
  rw [w3_set] at h
  have F6 := Lib.hid (And.intro h (F5.out.2.trans (hk.mono fun i hi => .inl hi)))
  clear h hk HS F5
  have HL := Lib.hid (wLen_any F6.out.1)
  have HO := Lib.hid (wOut_any F6.out.1)
  go_wp2_with (fail)
  with_reducible refine HL.out.mono ?_
  rintro e wz ⟨rfl, rfl⟩
  go_wp2_with (fail)
  with_reducible refine HO.out.mono ?_
  rintro e wz ⟨rfl, rfl⟩
  obtain ⟨S, hS⟩ : ∃ S : ByteArray, (⟨sB.toArray⟩ : ByteArray) = S := ⟨_, rfl⟩
  rw [hS]
  have hSz : S.size = 14 := by subst hS; rfl
  have hSd : S.data.toList = sB := by subst hS; rfl
  have HSS := Lib.hid (And.intro hS (And.intro hSz hSd))
  have hszI : (S.size : Int) = 14 := by omega
  clear hS hSz hSd HL HO
  go_wp2_with (fail)
  have HR := Lib.hid (wRaw_any (S ++ S) F6.out.1 (by rw [ByteArray.size_append, HSS.out.2.1]; decide) (by decide))
  rw [show wput 40 false sB (S ++ S).data.toList = (true, sB) from by rw [ByteArray.data_append, Array.toList_append, HSS.out.2.2]; decide +kernel] at HR
  with_reducible refine HR.out.mono ?_
  rintro e w7 ⟨rfl, h, hk⟩
  have F7 := Lib.hid (F6.out.2.trans (hk.mono fun i hi => .inl hi))
  have HO := Lib.hid (wOut_full h)
  clear h hk HR F6
  go_wp2_with (fail)
  with_reducible refine HO.out.mono ?_
  rintro e wz ⟨rfl, rfl⟩
  have HP := Lib.hid (rOpen_any S w7)
  clear HO
  go_wp2_with (fail)
  with_reducible refine HP.out.mono ?_
  rintro e w8 ⟨rfl, h, hb⟩
  obtain ⟨rb, hrb⟩ : ∃ rb, w7.heap.size = rb := ⟨_, rfl⟩
  rw [hrb] at h ⊢
  have hrbK : ¬ rb < w.heap.size := by have := F7.out.size; omega
  have F8 := Lib.hid (F7.out.trans (KeepK.of_below hb (fun i (hi : i < w.heap.size) => by have := F7.out.size; omega)))
  have HNU := Lib.hid (rNum_yes h 2 (.inr (.inl rfl)) (by rw [HSS.out.2.1]; decide) (by rw [HSS.out.2.1]; decide))
  rw [show ((S.extract 0 (0 + 2)).data.toList) = sB.take 2 from by simp [HSS.out.2.2], show (beN (sB.take 2) : Int) = 7 from by decide +kernel] at HNU
  have HRB := Lib.hid (And.intro hrbK (h.lt))
  clear h hb HP F7 hrb hrbK
  go_wp2_with (fail)
  refine HNU.out.mono ?_
  rintro e w9 ⟨rfl, h, hk⟩
  have F9 := Lib.hid (F8.out.trans (hk.mono fun i (hi : i < w.heap.size) => ⟨by have := F8.out.size; omega, fun e => HRB.out.1 (e ▸ hi)⟩))
  have HA := Lib.hid (rName_any h (by rw [HSS.out.2.1]; decide) (by rw [HSS.out.2.1]; decide))
  clear h hk HNU F8
  go_wp2_with (fail)
  with_reducible refine HA.out.mono ?_
  rintro e w10 hp
  unfold NamePost at hp
  rw [HSS.out.2.2, show nread sB (0 + 2) = (nA, some 9) from rd1] at hp
  obtain ⟨rfl, h, hk⟩ : e = .returned (.string ⟨nA.toArray⟩) ∧ Rd w10 rb S 9 false ∧ But rb w9 w10 := by
    rcases hp with ⟨_, q, hq, he, h, hk⟩ | ⟨hn, _⟩
    · injection hq with hq
      subst hq
      exact ⟨he, h, hk⟩
    · exact absurd hn (by rw [is1]; decide)
  have F10 := Lib.hid (F9.out.trans (hk.mono fun i (hi : i < w.heap.size) => ⟨by have := F9.out.size; omega, fun e => HRB.out.1 (e ▸ hi)⟩))
  have HB := Lib.hid (rName_any h (by rw [HSS.out.2.1]; decide) (by rw [HSS.out.2.1]; decide))
  obtain ⟨SA, hSA⟩ : ∃ X : ByteArray, (⟨nA.toArray⟩ : ByteArray) = X := ⟨_, rfl⟩
  rw [hSA]
  have HSA := Lib.hid hSA
  clear h hk HA F9 hp hSA
  go_wp2_with (fail)
  with_reducible refine HB.out.mono ?_
  rintro e w11 hp
  unfold NamePost at hp
  rw [HSS.out.2.2, rd2] at hp
  obtain ⟨rfl, h, hk⟩ : e = .returned (.string ⟨nB.toArray⟩) ∧ Rd w11 rb S 13 false ∧ But rb w10 w11 := by
    rcases hp with ⟨_, q, hq, he, h, hk⟩ | ⟨hn, _⟩
    · injection hq with hq
      subst hq
      exact ⟨he, h, hk⟩
    · exact absurd hn (by rw [is2]; decide)
  have F11 := Lib.hid (F10.out.trans (hk.mono fun i (hi : i < w.heap.size) => ⟨by have := F10.out.size; omega, fun e => HRB.out.1 (e ▸ hi)⟩))
  have HC := Lib.hid (rName_any h (by rw [HSS.out.2.1]; decide) (by rw [HSS.out.2.1]; decide))
  obtain ⟨SB, hSB⟩ : ∃ X : ByteArray, (⟨nB.toArray⟩ : ByteArray) = X := ⟨_, rfl⟩
  rw [hSB]
  have HSB := Lib.hid hSB
  clear h hk HB F10 hp hSB
  go_wp2_with (fail)
  with_reducible refine HC.out.mono ?_
  rintro e w12 hp
  unfold NamePost at hp
  rw [HSS.out.2.2, rd3] at hp
  obtain ⟨rfl, h, hk⟩ : e = .returned (.string ⟨#[0]⟩) ∧ Rd w12 rb S 14 false ∧ But rb w11 w12 := by
    rcases hp with ⟨_, q, hq, he, h, hk⟩ | ⟨hn, _⟩
    · injection hq with hq
      subst hq
      exact ⟨he, h, hk⟩
    · exact absurd hn (by rw [is3]; decide)
  have F12 := Lib.hid (F11.out.trans (hk.mono fun i (hi : i < w.heap.size) => ⟨by have := F11.out.size; omega, fun e => HRB.out.1 (e ▸ hi)⟩))
  have HL := Lib.hid (rLeft_any h (by rw [HSS.out.2.1]; decide) (by rw [HSS.out.2.1]; decide))
  rw [HSS.out.2.1] at HL
  have HAT := Lib.hid (fun k => rAt_any (w := w12.drewN k) (Blk.drewN h k))
  have HNO := Lib.hid (fun k => rRaw_no (w := w12.drewN k) (Blk.drewN h k) 1 (by rw [HSS.out.2.1]; decide) (by rw [HSS.out.2.1]; decide) (.inr (by rw [HSS.out.2.1]; decide)))
  obtain ⟨SC, hSC⟩ : ∃ X : ByteArray, (⟨#[0]⟩ : ByteArray) = X := ⟨_, rfl⟩
  rw [hSC]
  have HSC := Lib.hid hSC
  clear h hk HC F11 hp hSC
  go_wp2_with (fail)
  with_reducible refine HL.out.mono ?_
  rintro e wz ⟨rfl, k, rfl⟩
  go_wp2_with (fail)
  with_reducible refine (HAT.out _).mono ?_
  rintro e wz ⟨rfl, rfl⟩
  go_wp2_with (fail)
  with_reducible refine (HNO.out _).mono ?_
  rintro e w13 ⟨rfl, h, hk⟩
  have F13 := Lib.hid (F12.out.trans ((KeepK.refl _ _).drewN k |>.trans (hk.mono fun i (hi : i < w.heap.size) => ⟨by have := F12.out.size; show i < w12.heap.size; omega, fun e => HRB.out.1 (e ▸ hi)⟩)))
  have HBD := Lib.hid (rBad_any h)
  have tl : ∀ (X : ByteArray) (l : Bs), X.data.toList = l → X.toList = l := fun X l h => by rw [ByteArray.toList_eq, h]
  have q1 : S.toList = [0, 7, 1, 97, 3, 111, 114, 103, 0, 1, 98, 192, 4, 0] := tl _ _ HSS.out.2.2
  have q2 : SA.toList = [1, 97, 3, 111, 114, 103, 0] := tl _ _ (by rw [← HSA.out]; rfl)
  have q3 : SB.toList = [1, 98, 3, 111, 114, 103, 0] := tl _ _ (by rw [← HSB.out]; rfl)
  have q4 : SC.toList = [0] := tl _ _ (by rw [← HSC.out])
  have q5 : ((sB.length : Nat) : Int) = 14 := rfl
  clear tl
  clear h hk HL HAT HNO F12
  go_wp2_with (fail)
  with_reducible refine HBD.out.mono ?_
  rintro e wz ⟨rfl, rfl⟩
  go_wp2_with (fail)
  go_ret
  exact ⟨rfl, F13.out.below fun i hi => hi⟩
end Go.Proofs.Ytkjefohkhdadaaa
