/- The walk of hardtacklaw04.lives. Conditions: none. -/
import Derived.Test.YtkjefohkhdadaaaRdFold
import Derived.Test.YtkjefohkhdadaaaSameT
namespace Go.Proofs.Ytkjefohkhdadaaa
open Go.RowKit Go.Lib

/-- A name of one text at a form of one. -/
theorem joins_one {V : World} {A : Option Addr} {c : Nat} {n : Bs} (h : Sl V 1 (.slice A 1 c) 1 (strs [n])) : Joins V A 1 c ⟨n.toArray⟩ := by
  obtain ⟨g, cap, hv, hg, _, _, hc⟩ := h.form (by decide)
  injection hv with hA _ _
  subst hA
  intro W hb
  exact (join_one g 0 c ⟨n.toArray⟩ W ((hb.cell (p := ⟨g, 0, none⟩) hg).trans (hc 0 _ rfl))).mono fun e w' ⟨he, hw⟩ => ⟨he, hw ▸ Below.refl _ _⟩
theorem fold_one (t : Int) (s : ByteArray) (hs : s.size ≤ 1000000) (h1 : ∀ p, lookN t s.data.toList = some p → ∃ n, p.2.1 = [n]) (w : World) :
    Calls Try.prog 60 #[.int .u16 t, .string s] w fun e w' => e = .returned (.string ⟨(foldD t s.data.toList).toArray⟩) ∧ Below w.heap.size w w' :=
  rdFold_any t s hs w fun V p A c hq hS => by
    obtain ⟨n, hn⟩ := h1 p hq
    rw [hn] at hS ⊢
    simp only [List.flatten_cons, List.flatten_nil, List.append_nil]
    exact joins_one hS

theorem TTab.keepK {w w' : World} {A : Option Addr} {xs : List Value} {B : Nat} (h : TTab w A xs) (hB : w.heap.size ≤ B) (hk : KeepK (fun i => i < B) w w') : TTab w' A xs := fun hn => by
  obtain ⟨b, off, hA, hlt, hc⟩ := h hn
  have hlB : b < B := by omega
  exact ⟨b, off, hA, Nat.lt_of_lt_of_le hlt hk.size, fun j u hu => (hk.cell (p := ⟨b, off + j, none⟩) hlB).trans (hc j u hu)⟩
def mxB : ByteArray := ⟨#[0, 5, 1, 65, 0]⟩
def soaB : ByteArray := ⟨#[0, 0, 0, 0, 0, 0, 0, 0, 0, 0, 0, 0, 0, 0, 0, 0, 0, 0, 0, 0, 0, 9]⟩
theorem mx_ok : okD 15 mxB.data.toList = true := by decide +kernel
theorem l04a (w : World) : Calls Try.prog 49 #[.string ⟨#[1, 2, 3, 4]⟩] w fun e w' => e = .returned (.tuple #[.int .u32 16909060, .int .i64 0]) ∧ Below w.heap.size w w' := by
  have := addr_any ⟨#[1, 2, 3, 4]⟩ (by decide) w
  rw [show addrN (⟨#[1, 2, 3, 4]⟩ : ByteArray).data.toList = (16909060, 0) from by decide +kernel] at this
  exact this
theorem l04b (w : World) : Calls Try.prog 51 #[.string soaB] w fun e w' => e = .returned (.tuple #[.int .u32 9, .int .i64 0]) ∧ Below w.heap.size w w' := by
  have := least_any soaB (by decide) w
  rw [show leastN soaB.data.toList = (9, 0) from by decide +kernel] at this
  exact this
theorem l04c (w : World) : Calls Try.prog 53 #[.string ⟨#[1, 97, 0]⟩] w fun e w' => ∃ A c, e = .returned (.tuple #[.slice A 2 c, .int .i64 0]) ∧ TTab w' A ([(⟨#[97]⟩ : ByteArray), ⟨#[]⟩].map Value.string) ∧ Below w.heap.size w w' := by
  refine (rdTexts_any ⟨#[1, 97, 0]⟩ (by decide) w).mono ?_
  rintro e w' (⟨h, _⟩ | ⟨ts, A, c, _, hq, he, hS, _, hb⟩)
  · exact absurd h (by decide +kernel)
  · have : ts = [[97], []] := Option.some.inj (hq.symm.trans (by decide +kernel))
    subst this
    exact ⟨A, c, he, ttab_of_sl (xs := [(⟨#[97]⟩ : ByteArray), ⟨#[]⟩].map Value.string) hS, hb⟩
theorem l04d (w : World) : Calls Try.prog 53 #[.string ⟨#[2, 97]⟩] w fun e w' => e = .returned (.tuple #[.slice none 0 0, .int .i64 2]) ∧ Below w.heap.size w w' := by
  refine (rdTexts_any ⟨#[2, 97]⟩ (by decide) w).mono ?_
  rintro e w' (⟨_, he, hb⟩ | ⟨ts, A, c, h, _⟩)
  · exact ⟨he, hb⟩
  · exact absurd h (by decide +kernel)
theorem l04e (w : World) : Calls Try.prog 55 #[.int .u16 15, .string mxB] w fun e w' => e = .returned (.int .i64 0) ∧ Below w.heap.size w w' := by
  have := rdCheck_any 15 mxB (by decide) w
  rw [chk_ok mx_ok] at this
  exact this
theorem l04f (w : World) : Calls Try.prog 55 #[.int .u16 1, .string ⟨#[97, 98, 99]⟩] w fun e w' => e = .returned (.int .i64 2) ∧ Below w.heap.size w w' := by
  have := rdCheck_any 1 ⟨#[97, 98, 99]⟩ (by decide) w
  rw [chk_no (by decide +kernel)] at this
  exact this
theorem l04g (w : World) : Calls Try.prog 60 #[.int .u16 15, .string mxB] w fun e w' => e = .returned (.string ⟨#[0, 5, 1, 97, 0]⟩) ∧ Below w.heap.size w w' := by
  have := fold_one 15 mxB (by decide) (fun p hp => by
    have h2 := cutN_len (look_cut (f := (1, 1, 0)) rfl hp)
    have h3 : p.2.1.length = 1 := h2.2.2.1
    exact List.length_eq_one_iff.1 h3) w
  rw [show foldD 15 mxB.data.toList = [0, 5, 1, 97, 0] from by decide +kernel] at this
  exact this
theorem l04h (w : World) : Calls Try.prog 58 #[.int .u16 15, .string mxB] w fun e w' => ∃ A c, e = .returned (.slice A 1 c) ∧ TTab w' A ([(⟨#[1, 65, 0]⟩ : ByteArray)].map Value.string) ∧ Below w.heap.size w w' := by
  refine (names_any 15 mxB (by decide) w).mono ?_
  rintro e w' ⟨A, c, he, hS, _, hb⟩
  have : ((lookN 15 mxB.data.toList).map (·.2.1)).getD [] = [[1, 65, 0]] := by decide +kernel
  rw [this] at he hS
  exact ⟨A, c, he, ttab_of_sl (xs := [(⟨#[1, 65, 0]⟩ : ByteArray)].map Value.string) hS, hb⟩
def rB : ByteArray := ⟨#[1, 97, 0, 192, 0, 33]⟩
theorem rd4a : nread rB.data.toList 0 = ([1, 97, 0], some 3) := by decide +kernel
theorem rd4b : readD 2 (rB.data.toList.take (3 + 2)) 3 2 = some [1, 97, 0] := by decide +kernel
theorem rd4c : readD 1 (rB.data.toList.take (5 + 1)) 5 1 = none := by decide +kernel
def nUp : Bs := [1, 65, 0]
def X1 : Bs × Rests := wname true (labs nUp).1 [] (fun _ => none)
theorem x1_b : X1.1 = [1, 65, 0] := by decide +kernel
theorem x1_ok : OkR X1.1 X1.2 := by
  obtain ⟨t, h1, _, _, _, h2⟩ := wname_more (pt := true) (ls := (labs nUp).1) (l := []) (R := fun _ => none) (labs_ok _) (OkR.none _)
  unfold X1; rw [h1]; exact h2
theorem x2_b : (writeM 15 mxB.data.toList X1.1 X1.2).1 = [1, 65, 0, 0, 5, 192, 0] := by decide +kernel
theorem rwrite4 {w : World} {b mb c : Nat} {K : Nat → Prop} (h : Wn K w b mb c 100 X1.1 X1.2) (hc : c ≤ 300) : Calls Try.prog 63 #[.pointer (some ⟨b, 0, none⟩), .int .u16 15, .string mxB] w fun e w' => e = .returned (.int .i64 0) ∧ Wr K w' b 100 false (.map (some mb)) [1, 65, 0, 0, 5, 192, 0] ∧ KeepK K w w' := by
  refine (rdWrite_any 15 mxB (by decide) mx_ok h x1_ok (by rw [x1_b]; decide) (by decide) (by omega)).mono ?_
  rintro e w' ⟨he, l', R', c', hX, hw, hk, _⟩
  have hl : l' = [1, 65, 0, 0, 5, 192, 0] := (congrArg Prod.fst hX).trans x2_b
  subst hl
  exact ⟨he, hw.1.mono fun i hi => .inl hi, hk⟩

def z19 : ByteArray := ⟨#[0, 0, 0, 0, 0, 0, 0, 0, 0, 0, 0, 0, 0, 0, 0, 0, 0, 0, 0]⟩
set_option maxHeartbeats 8000000 in
set_option maxRecDepth 100000 in
theorem lives04 (w : World) : Calls Try.prog 48 #[] w fun e w' => e = .returned (.bool true) ∧ Below w.heap.size w w' := by
  go_enter Try.func48, Try.ntmps48
  go_wp2_with (fail)
  refine (l04a _).mono ?_
  rintro e w1 ⟨rfl, hb⟩
  have hmk : (Instr.makeSlice 106 (.int .i64 19) (.int .i64 19)).run Try.prog w1 = .ok (.slice (some ⟨w1.heap.size, 0, none⟩) 19 19) (w1.alloc (.cells #[.int .u8 0, .int .u8 0, .int .u8 0, .int .u8 0, .int .u8 0, .int .u8 0, .int .u8 0, .int .u8 0, .int .u8 0, .int .u8 0, .int .u8 0, .int .u8 0, .int .u8 0, .int .u8 0, .int .u8 0, .int .u8 0, .int .u8 0, .int .u8 0, .int .u8 0] 5)) := by kernel_rfl
  have hZ0 : Sl (w1.alloc (.cells #[.int .u8 0, .int .u8 0, .int .u8 0, .int .u8 0, .int .u8 0, .int .u8 0, .int .u8 0, .int .u8 0, .int .u8 0, .int .u8 0, .int .u8 0, .int .u8 0, .int .u8 0, .int .u8 0, .int .u8 0, .int .u8 0, .int .u8 0, .int .u8 0, .int .u8 0] 5)) 1 (.slice (some ⟨w1.heap.size, 0, none⟩) 19 19) z19.data.toList.length (z19.data.toList.map b8) := by
    refine ⟨rfl, .inr ⟨w1.heap.size, 19, rfl, by simp, Nat.le_refl _, by decide, fun j hj => ⟨?_, World.frozen?_alloc_new _ _ _ j⟩, fun j u hu => (World.cell?_alloc_new _ _ _ j).trans (by simpa [z19, b8] using hu)⟩⟩
    rw [World.cell?_alloc_new, Array.getElem?_eq_getElem hj]
    rfl
  have hcv := hZ0.str
  rw [show (⟨z19.data.toList.toArray⟩ : ByteArray) = z19 from rfl] at hcv
  obtain ⟨Z, hZ⟩ : ∃ Z, z19 = Z := ⟨_, rfl⟩
  have hZs : Z.size = 19 := by subst hZ; rfl
  have hsoa : (⟨#[0, 0]⟩ : ByteArray) ++ Z ++ ⟨#[9]⟩ = soaB := by subst hZ; decide +kernel
  rw [hZ] at hcv
  have HSO := Lib.hid hsoa
  have L1b := Lib.hid (hb.alloc hb.size (.cells #[.int .u8 0, .int .u8 0, .int .u8 0, .int .u8 0, .int .u8 0, .int .u8 0, .int .u8 0, .int .u8 0, .int .u8 0, .int .u8 0, .int .u8 0, .int .u8 0, .int .u8 0, .int .u8 0, .int .u8 0, .int .u8 0, .int .u8 0, .int .u8 0, .int .u8 0] 5))
  have L1 := Lib.hid hZs
  have k1 : ¬ 9223372036854775807 < 2 + Z.size := by omega
  have k2 : ¬ 9223372036854775807 < 2 + Z.size + 1 := by omega
  clear hb hZ0 hZ hsoa hZs
  go_wp2_with (fail)
  rw [HSO.out]
  with_reducible refine (l04b _).mono ?_
  rintro e w2 ⟨rfl, hb⟩
  have L2 := Lib.hid (L1b.out.trans (hb.mono L1b.out.size))
  clear hb hmk hcv k1 k2 L1
  go_wp2_with (fail)
  refine (l04c _).mono ?_
  rintro e w3 ⟨A3, c3, rfl, hT, hb⟩
  have L3 := Lib.hid (And.intro (L2.out.trans (hb.mono L2.out.size)) hT)
  clear hb hT
  go_wp2_with (fail)
  refine (l04d _).mono ?_
  rintro e w4 ⟨rfl, hb⟩
  have L4 := Lib.hid (And.intro (L3.out.1.trans (hb.mono L3.out.1.size)) (L3.out.2.below hb))
  clear hb
  have HN := Lib.hid (wn_new 100 w4)
  go_wp2_with (fail)
  with_reducible refine HN.out.mono ?_
  rintro e w5 ⟨b, mb, rfl, h, hb⟩
  have HO := Lib.hid (rOpen_any rB w5)
  have L5 := Lib.hid (And.intro (L4.out.1.trans (hb.mono L4.out.1.size)) (And.intro h hb))
  clear h hb HN
  go_wp2_with (fail)
  refine HO.out.mono ?_
  rintro e w6 ⟨rfl, hr, hb⟩
  obtain ⟨rb, hrb⟩ : ∃ rb, w5.heap.size = rb := ⟨_, rfl⟩
  have hrb4 : w4.heap.size ≤ rb := by have := L5.out.2.1.1.1; have := L5.out.2.1.1.lt; rw [← hrb]; exact Nat.le_of_lt_succ (by
    have h1 := (L5.out.2.1.1.1 mb (.inr rfl)).1
    have h2 : ∀ i, i < w4.heap.size → i < w5.heap.size := fun i hi => (L5.out.2.1.1.1 i (.inl hi)).1
    by_cases hz : w4.heap.size = 0
    · omega
    · have := h2 (w4.heap.size - 1) (by omega); omega)
  have hWn6 : Wn (fun i => i < w4.heap.size ∨ (w5.heap.size ≤ i ∧ i < w6.heap.size)) w6 b mb 0 100 [] (fun _ => none) := L5.out.2.1.fresh (KeepK.of_below hb fun i hi => hi.1)
  rw [hrb] at hr ⊢
  have hrlt := hr.lt
  have L6 := Lib.hid (And.intro (L5.out.1.trans (hb.mono L5.out.1.size)) (And.intro hWn6 (And.intro hr (And.intro (L5.out.2.2.trans (hb.mono L5.out.2.2.size)) (And.intro hrb4 (show w5.heap.size ≤ rb ∧ rb < w6.heap.size by omega))))))
  clear hr hb HO hWn6 hrb hrb4 hrlt
  have HA := Lib.hid (wName_any ⟨#[1, 65, 0]⟩ (by decide +kernel) L6.out.2.1 (by decide) (by decide) (by decide) (fun k p h => by cases h))
  go_wp2_with (fail)
  with_reducible refine HA.out.mono ?_
  rintro e w7 ⟨rfl, ⟨c7, hc7, h⟩, hk⟩
  have h7 : Wn (fun i => i < w4.heap.size ∨ (w5.heap.size ≤ i ∧ i < w6.heap.size)) w7 b mb c7 100 X1.1 X1.2 := h
  have hK4 : KeepK (fun i => i < w4.heap.size) w6 w7 := hk.mono fun i hi => .inl hi
  have L7 := Lib.hid (And.intro (L6.out.1.trans (hk.below fun i hi => .inl (Nat.lt_of_lt_of_le hi L4.out.1.size))) (And.intro (Blk.keepK L6.out.2.2.1 hk (.inr L6.out.2.2.2.2.2) : Rd w7 rb rB 0 false) hK4))
  have HW := Lib.hid (rwrite4 h7 (by omega))
  clear h hk hc7 HA h7 hK4
  go_wp2_with (fail)
  refine HW.out.mono ?_
  rintro e w8 ⟨rfl, h, hk⟩
  have L8 := Lib.hid (And.intro (L7.out.1.trans (hk.below fun i hi => .inl (Nat.lt_of_lt_of_le hi L4.out.1.size))) (And.intro (Blk.keepK L7.out.2.1 hk (.inr L6.out.2.2.2.2.2) : Rd w8 rb rB 0 false) (L7.out.2.2.trans (hk.mono fun i hi => .inl hi))))
  have HOU := Lib.hid (wOut_any h)
  clear h hk HW
  go_wp2_with (fail)
  with_reducible refine HOU.out.mono ?_
  rintro e wz ⟨rfl, rfl⟩
  have HNA := Lib.hid (rName_any L8.out.2.1 (by decide) (by decide))
  obtain ⟨SO, hSO⟩ : ∃ X : ByteArray, (⟨([1, 65, 0, 0, 5, 192, 0] : Bs).toArray⟩ : ByteArray) = X := ⟨_, rfl⟩
  rw [hSO]
  have HSO2 := Lib.hid hSO
  clear HOU hSO
  go_wp2_with (fail)
  with_reducible refine HNA.out.mono ?_
  rintro e w9 hp
  unfold NamePost at hp
  rw [rd4a] at hp
  obtain ⟨rfl, h, hk⟩ : e = .returned (.string ⟨([1, 97, 0] : Bs).toArray⟩) ∧ Rd w9 rb rB 3 false ∧ But rb w8 w9 := by
    rcases hp with ⟨_, q, hq, he, h, hk⟩ | ⟨hn, _⟩
    · injection hq with hq
      subst hq
      exact ⟨he, h, hk⟩
    · exact absurd hn (by decide +kernel)
  have HR1 := Lib.hid (rdRead_any 2 2 h (by decide) (by decide))
  have L9 := Lib.hid (And.intro (L8.out.1.trans (But.below hk (Nat.le_trans L4.out.1.size L6.out.2.2.2.2.1) L8.out.1.size)) (L8.out.2.2.trans (KeepK.mono hk fun i (hi : i < w4.heap.size) => ⟨by have := L8.out.2.2.size; have := L5.out.2.1.1.1 i (.inl hi); have := L6.out.2.2.2.2.2; omega, by have := L6.out.2.2.2.2.1; omega⟩)))
  clear hp h hk HNA
  go_wp2_with (fail)
  refine HR1.out.mono ?_
  rintro e w10 ⟨hq, h, hk⟩
  obtain rfl : e = .returned (.tuple #[.string ⟨([1, 97, 0] : Bs).toArray⟩, .int .i64 0]) := by
    rcases hq with ⟨hq, _⟩ | ⟨d, hq, he⟩
    · rw [rd4b] at hq; cases hq
    · rw [rd4b] at hq
      injection hq with hq
      subst hq
      exact he
  have HR2 := Lib.hid (rdRead_any 1 1 h (by decide) (by decide))
  have L10 := Lib.hid (And.intro (L9.out.1.trans (But.below hk (Nat.le_trans L4.out.1.size L6.out.2.2.2.2.1) L9.out.1.size)) (L9.out.2.trans (KeepK.mono hk fun i (hi : i < w4.heap.size) => ⟨by have := L9.out.2.size; have := L5.out.2.1.1.1 i (.inl hi); have := L6.out.2.2.2.2.2; omega, by have := L6.out.2.2.2.2.1; omega⟩)))
  obtain ⟨SD, hSD⟩ : ∃ X : ByteArray, (⟨([1, 97, 0] : Bs).toArray⟩ : ByteArray) = X := ⟨_, rfl⟩
  rw [hSD]
  have HSD := Lib.hid hSD
  clear hq h hk HR1 hSD
  go_wp2_with (fail)
  refine HR2.out.mono ?_
  rintro e w11 ⟨hq, h, hk⟩
  obtain rfl : e = .returned (.tuple #[.string ⟨#[]⟩, .int .i64 6]) := by
    rcases hq with ⟨_, he⟩ | ⟨d, hq, _⟩
    · exact he
    · rw [rd4c] at hq; cases hq
  have L11 := Lib.hid (And.intro (L10.out.1.trans (But.below hk (Nat.le_trans L4.out.1.size L6.out.2.2.2.2.1) L10.out.1.size)) (L10.out.2.trans (KeepK.mono hk fun i (hi : i < w4.heap.size) => ⟨by have := L10.out.2.size; have := L5.out.2.1.1.1 i (.inl hi); have := L6.out.2.2.2.2.2; omega, by have := L6.out.2.2.2.2.1; omega⟩)))
  clear hq h hk HR2
  go_wp2_with (fail)
  have hT11 : TTab (w11.alloc (.cells #[.string ⟨#[97]⟩, .string ⟨#[]⟩] 9)) A3 ([(⟨#[97]⟩ : ByteArray), ⟨#[]⟩].map Value.string) :=
    TTab.keepK L4.out.2 (Nat.le_refl _) (((KeepK.of_below (K := fun i => i < w4.heap.size) L6.out.2.2.2.1 fun i hi => hi).trans L11.out.2).alloc (fun i (hi : i < w4.heap.size) => by have := L11.out.2.size; have := L6.out.2.2.2.1.size; omega) _)
  have hB11 := Blk.new w11 9 #[.string ⟨#[97]⟩, .string ⟨#[]⟩]
  have hN11 : TTab (w11.alloc (.cells #[.string ⟨#[97]⟩, .string ⟨#[]⟩] 9)) (some ⟨w11.heap.size, 0, none⟩) ([(⟨#[97]⟩ : ByteArray), ⟨#[]⟩].map Value.string) := fun _ =>
    ⟨_, 0, rfl, by simp, fun j u hu => by
      rw [Nat.zero_add]
      exact (World.cell?_alloc_new _ _ _ j).trans (by simpa using hu)⟩
  have HS1 := Lib.hid (sameT_any [(⟨#[97]⟩ : ByteArray), ⟨#[]⟩] A3 (some ⟨w11.heap.size, 0, none⟩) c3 2 _ hT11 hN11 (by decide))
  have LA := Lib.hid (L11.out.1.alloc L11.out.1.size (.cells #[.string ⟨#[97]⟩, .string ⟨#[]⟩] 9))
  have tl : ∀ (X : ByteArray) (l : Bs), X.data.toList = l → X.toList = l := fun X l h => by rw [ByteArray.toList_eq, h]
  have q1 : SO.toList = [1, 65, 0, 0, 5, 192, 0] := tl _ _ (by rw [← HSO2.out])
  have q2 : SD.toList = [1, 97, 0] := tl _ _ (by rw [← HSD.out])
  clear hT11 hB11 hN11 tl
  refine HS1.out.mono ?_
  rintro e w12 ⟨rfl, hb⟩
  have LB := Lib.hid (LA.out.trans (hb.mono LA.out.size))
  clear hb HS1
  go_wp2_with (fail)
  refine (l04e _).mono ?_
  rintro e w13 ⟨rfl, hb⟩
  have LC := Lib.hid (LB.out.trans (hb.mono LB.out.size))
  clear hb
  go_wp2_with (fail)
  refine (l04g _).mono ?_
  rintro e w14 ⟨rfl, hb⟩
  have LD := Lib.hid (LC.out.trans (hb.mono LC.out.size))
  clear hb
  go_wp2_with (fail)
  refine (l04h _).mono ?_
  rintro e w15 ⟨A5, c5, rfl, hT, hb⟩
  have LE := Lib.hid (And.intro (LD.out.trans (hb.mono LD.out.size)) hT)
  clear hb hT
  go_wp2_with (fail)
  have hT16 : TTab (w15.alloc (.cells #[.string ⟨#[1, 65, 0]⟩] 9)) A5 ([(⟨#[1, 65, 0]⟩ : ByteArray)].map Value.string) := LE.out.2.below ((Below.refl _ _).alloc (Nat.le_refl _) _)
  have hN16 : TTab (w15.alloc (.cells #[.string ⟨#[1, 65, 0]⟩] 9)) (some ⟨w15.heap.size, 0, none⟩) ([(⟨#[1, 65, 0]⟩ : ByteArray)].map Value.string) := fun _ =>
    ⟨_, 0, rfl, by simp, fun j u hu => by
      rw [Nat.zero_add]
      exact (World.cell?_alloc_new _ _ _ j).trans (by simpa using hu)⟩
  have HS2 := Lib.hid (sameT_any [(⟨#[1, 65, 0]⟩ : ByteArray)] A5 (some ⟨w15.heap.size, 0, none⟩) c5 1 _ hT16 hN16 (by decide))
  have LF := Lib.hid (LE.out.1.alloc LE.out.1.size (.cells #[.string ⟨#[1, 65, 0]⟩] 9))
  clear hT16 hN16
  refine HS2.out.mono ?_
  rintro e w17 ⟨rfl, hb⟩
  have LG := Lib.hid (LF.out.trans (hb.mono LF.out.size))
  clear hb HS2
  go_wp2_with (fail)
  refine (l04f _).mono ?_
  rintro e w18 ⟨rfl, hb⟩
  have LH := Lib.hid (LG.out.trans (hb.mono LG.out.size))
  clear hb
  go_wp2_with (fail)
  go_ret
  exact ⟨rfl, LH.out⟩
end Go.Proofs.Ytkjefohkhdadaaa
