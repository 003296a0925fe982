/- Stable sorting of peers that are all equal: nothing turns. Conditions: none. -/
import Derived.Test.YtfipacfompihkaaPeM
import Derived.Deep.QuietTactic
import Derived.BigQuiet
import Derived.BigRegion
import Derived.Deep.RegionHeld3
import Derived.IntWalk
import Derived.Deep.LoopGhost
import Derived.Deep.DeepMust
import Derived.Deep.DeepCutAuto
import Derived.Deep.CutBlock
namespace Go.Proofs.Ytfipacfompihkaa
open Go.RowKit Go.Lib

theorem last11_2 {a b c d e f g h i j k : Prop} (H : a ∧ b ∧ c ∧ d ∧ e ∧ f ∧ g ∧ h ∧ i ∧ j ∧ k) : k := H.2.2.2.2.2.2.2.2.2.2
set_option maxRecDepth 100000 in
set_option maxHeartbeats 4000000 in
theorem insEq2_any (xs : List Pe) (A : Option Addr) (c a b : Nat) (w : World) (hS : PeS w A c xs) (hE : Even 36 xs) (hn : xs.length ≤ 100) (hb : b ≤ xs.length) (ha : a ≤ xs.length) :
    Calls Try.prog 98 #[.slice A xs.length c, .int .i64 (a : Int), .int .i64 (b : Int), .func (.func 36) #[] #[]] w fun e w' => e = .returned (.tuple #[]) ∧ Below w.heap.size w w' := by
  have HS := Lib.hid (And.intro hS (And.intro hE (And.intro hb hn)))
  have hNI : (xs.length : Int) ≤ 100 := by omega
  have haI : (a : Int) ≤ 100 := by omega
  have hbI : (b : Int) ≤ 100 := by omega
  clear hS hE hb hn ha
  go_enter Try.func98, Try.ntmps98
  go_wp2_with (fail)
  go_loopg [8, 9] (b - (a + 1)) (fun gg v8 _ wr => ∃ i : Nat, v8 = .int .i64 (i : Int) ∧ Aside (a + 1 ≤ i ∧ gg = b - i) ∧ Aside (Below w.heap.size w wr))
  case atStart => exact ⟨a + 1, by go_num, ⟨Nat.le_refl _, rfl⟩, Below.refl _ _⟩
  case round =>
    obtain ⟨i, rfl, hi, hB⟩ := hrel
    by_cases hlt : i < b
    · have hltI : (i : Int) < (b : Int) := by omega
      have hlN : i < xs.length := by have := HS.out.2.2.1; omega
      obtain ⟨x, hx⟩ : ∃ x, xs[i]? = some x := ⟨_, List.getElem?_eq_getElem hlN⟩
      obtain ⟨j, hj⟩ : ∃ j, i - 1 = j := ⟨_, rfl⟩
      have hji : j < xs.length := by omega
      obtain ⟨y, hy⟩ : ∃ y, xs[j]? = some y := ⟨_, List.getElem?_eq_getElem hji⟩
      obtain ⟨q, rfl, hq, x0, x1, x2, x3, x4⟩ := (HS.out.1.below hB.out).cells hx
      obtain ⟨q', hq', _, y0, y1, y2, y3, y4⟩ := (HS.out.1.below hB.out).cells hy
      injection hq' with hq'
      injection hq' with hq' _ _
      subst hq'
      have HC := Lib.hid (HS.out.2.1.call (List.mem_of_getElem? hx) (List.mem_of_getElem? hy) (V := wr))
      dsimp only [Pe.val] at HC
      have hai : (a : Int) < (i : Int) := by have := hi.out.1; omega
      have hiN : (i : Int) < (xs.length : Int) := by omega
      have hjN : (j : Int) < (xs.length : Int) := by omega
      have hij : (i : Int) - 1 = (j : Int) := by have := hi.out.1; omega
      have hiI : (i : Int) ≤ 100 := by omega
      have hjI : (j : Int) ≤ 100 := by omega
      have hw1 : IntKind.i64.wrap ((i : Int) - 1) = (j : Int) := by rw [IntKind.wrap_i64]; omega
      clear hij
      have hd1 : decide ((a : Int) < (i : Int)) = true := by simp; omega
      have hd2 : decide (a < i) = true := by simp; omega
      have R0 : Below wr.heap.size wr wr := Below.refl _ _
      have KF : RowKit.Hid (∀ w', Below wr.heap.size wr w' → w'.cell? ⟨q, i * 5, none⟩ = some (.int .u32 x.a) ∧ w'.cell? ⟨q, i * 5 + 1, none⟩ = some (.string ⟨#[]⟩) ∧ w'.cell? ⟨q, i * 5 + 2, none⟩ = some (.bool false) ∧ w'.cell? ⟨q, i * 5 + 3, none⟩ = some (.int .i64 x.f) ∧ w'.cell? ⟨q, i * 5 + 4, none⟩ = some (.int .i64 x.r) ∧ w'.cell? ⟨q, j * 5, none⟩ = some (.int .u32 y.a) ∧ w'.cell? ⟨q, j * 5 + 1, none⟩ = some (.string ⟨#[]⟩) ∧ w'.cell? ⟨q, j * 5 + 2, none⟩ = some (.bool false) ∧ w'.cell? ⟨q, j * 5 + 3, none⟩ = some (.int .i64 y.f) ∧ w'.cell? ⟨q, j * 5 + 4, none⟩ = some (.int .i64 y.r) ∧ Below wr.heap.size wr w') := Lib.hid (fun w' hb => by
        have t : ∀ o v, wr.cell? ⟨q, o, none⟩ = some v → w'.cell? ⟨q, o, none⟩ = some v := fun o v hv => (hb.cell (p := ⟨q, o, none⟩) hq).trans hv
        exact ⟨t _ _ x0, t _ _ x1, t _ _ x2, t _ _ x3, t _ _ x4, t _ _ y0, t _ _ y1, t _ _ y2, t _ _ y3, t _ _ y4, hb⟩)
      clear hx hy hlt hlN hji hj hq x0 x1 x2 x3 x4 y0 y1 y2 y3 y4
      go_wp2_with (fail)
      go_loopg [9] 0 (fun gg v9 wi => v9 = .int .i64 (i : Int) ∧ wi = wr)
      case atStart => exact ⟨rfl, rfl⟩
      case round =>
        obtain ⟨rfl, hwi⟩ := hrel
        subst hwi
        go_wp2_with (fail)
        go_region_held3 (fun w' => w'.cell? ⟨q, i * 5, none⟩ = some (.int .u32 x.a) ∧ w'.cell? ⟨q, i * 5 + 1, none⟩ = some (.string ⟨#[]⟩) ∧ w'.cell? ⟨q, i * 5 + 2, none⟩ = some (.bool false) ∧ w'.cell? ⟨q, i * 5 + 3, none⟩ = some (.int .i64 x.f) ∧ w'.cell? ⟨q, i * 5 + 4, none⟩ = some (.int .i64 x.r) ∧ w'.cell? ⟨q, j * 5, none⟩ = some (.int .u32 y.a) ∧ w'.cell? ⟨q, j * 5 + 1, none⟩ = some (.string ⟨#[]⟩) ∧ w'.cell? ⟨q, j * 5 + 2, none⟩ = some (.bool false) ∧ w'.cell? ⟨q, j * 5 + 3, none⟩ = some (.int .i64 y.f) ∧ w'.cell? ⟨q, j * 5 + 4, none⟩ = some (.int .i64 y.r) ∧ Below wr.heap.size wr w')
          (first | with_reducible assumption | with_reducible exact KF.out _ R0 | with_reducible exact KF.out _ R0.drew | with_reducible exact KF.out _ hb)
          (first | (go_at_call 36; with_reducible refine (HC.out _ (last11_2 (by assumption))).mono ?_; rintro e w' ⟨rfl, hb⟩))
        all_goals
          have HB2 := Lib.hid (show Below wr.heap.size wr _ from last11_2 (by assumption))
          go_wp2_with (fail)
          go_roundg (b - (i + 1))
          case measure => have := hi.out; have := hltI; omega
          case rel => exact ⟨i + 1, by go_num, ⟨by have := hi.out.1; omega, rfl⟩, hB.out.trans (HB2.out.mono hB.out.size)⟩
    · have hltI : ¬ (i : Int) < (b : Int) := by omega
      clear hlt
      go_wp2_with (fail)
      refine bodyPost_end (results_none rfl _ _ _) rfl ?_
      exact ⟨rfl, hB.out⟩
set_option maxRecDepth 100000 in
set_option maxHeartbeats 8000000 in
theorem symFront2_any (xs : List Pe) (A : Option Addr) (c a m b : Nat) (w : World) (hS : PeS w A c xs) (hE : Even 36 xs) (hn : xs.length ≤ 100) (ham : a < m) (hmb : m < b) (hb : b ≤ xs.length) (h1 : m = a + 1) :
    Calls Try.prog 99 #[.slice A xs.length c, .int .i64 (a : Int), .int .i64 (m : Int), .int .i64 (b : Int), .func (.func 36) #[] #[]] w fun e w' => e = .returned (.tuple #[]) ∧ Below w.heap.size w w' := by
  have hNI : (xs.length : Int) ≤ 100 := by omega
  have haI : (a : Int) ≤ 100 := by omega
  have hmI : (m : Int) ≤ 100 := by omega
  have hbI : (b : Int) ≤ 100 := by omega
  have ht0 : ((m : Int) - (a : Int) == 1) = true := by simp; omega
  have HS := Lib.hid (And.intro hS (And.intro hE (And.intro hb hn)))
  have HAB := Lib.hid (And.intro ham (And.intro hmb h1))
  clear hS hE hn ham hmb hb h1
  go_enter Try.func99, Try.ntmps99
  go_wp2_with (fail)
  go_loopg [10, 11, 12] (b - m) (fun gg v10 v11 _ wr => ∃ j : Nat, v10 = .int .i64 (m : Int) ∧ v11 = .int .i64 (j : Int) ∧ Aside (m ≤ j ∧ j ≤ b ∧ gg = j - m) ∧ Aside (Below w.heap.size w wr))
  case atStart => exact ⟨b, rfl, rfl, ⟨by have := HAB.out; omega, Nat.le_refl _, rfl⟩, Below.refl _ _⟩
  case round =>
    obtain ⟨j, rfl, rfl, hj, hB⟩ := hrel
    have hjI : (j : Int) ≤ 100 := by have := hj.out; have := HS.out.2.2; omega
    by_cases hlt : m < j
    · have hltI : (m : Int) < (j : Int) := by omega
      obtain ⟨k, hk⟩ : ∃ k, (m + j) / 2 = k := ⟨_, rfl⟩
      have hh : ((m : Int) + (j : Int)) / 2 = (k : Int) := by omega
      have hk1 : m ≤ k := by omega
      have hk2 : k < j := by omega
      have hkl : k < xs.length := by have := hj.out; have := HS.out.2.2; omega
      have hal : a < xs.length := by have := HAB.out; omega
      have hkI : (k : Int) ≤ 100 := by omega
      obtain ⟨x, hx⟩ : ∃ x, xs[k]? = some x := ⟨_, List.getElem?_eq_getElem (by omega)⟩
      obtain ⟨y, hy⟩ : ∃ y, xs[a]? = some y := ⟨_, List.getElem?_eq_getElem (by omega)⟩
      obtain ⟨q, rfl, hq, x0, x1, x2, x3, x4⟩ := (HS.out.1.below hB.out).cells hx
      obtain ⟨q', hq', _, y0, y1, y2, y3, y4⟩ := (HS.out.1.below hB.out).cells hy
      injection hq' with hq'
      injection hq' with hq' _ _
      subst hq'
      have HC := Lib.hid (HS.out.2.1.call (List.mem_of_getElem? hx) (List.mem_of_getElem? hy) (V := wr))
      dsimp only [Pe.val] at HC
      have kN : (k : Int) < (xs.length : Int) := by omega
      have aN : (a : Int) < (xs.length : Int) := by omega
      have R0 : Below wr.heap.size wr wr := Below.refl _ _
      have KF : RowKit.Hid (∀ w', Below wr.heap.size wr w' → w'.cell? ⟨q, k * 5, none⟩ = some (.int .u32 x.a) ∧ w'.cell? ⟨q, k * 5 + 1, none⟩ = some (.string ⟨#[]⟩) ∧ w'.cell? ⟨q, k * 5 + 2, none⟩ = some (.bool false) ∧ w'.cell? ⟨q, k * 5 + 3, none⟩ = some (.int .i64 x.f) ∧ w'.cell? ⟨q, k * 5 + 4, none⟩ = some (.int .i64 x.r) ∧ w'.cell? ⟨q, a * 5, none⟩ = some (.int .u32 y.a) ∧ w'.cell? ⟨q, a * 5 + 1, none⟩ = some (.string ⟨#[]⟩) ∧ w'.cell? ⟨q, a * 5 + 2, none⟩ = some (.bool false) ∧ w'.cell? ⟨q, a * 5 + 3, none⟩ = some (.int .i64 y.f) ∧ w'.cell? ⟨q, a * 5 + 4, none⟩ = some (.int .i64 y.r) ∧ Below wr.heap.size wr w') := Lib.hid (fun w' hb => by
        have t : ∀ o v, wr.cell? ⟨q, o, none⟩ = some v → w'.cell? ⟨q, o, none⟩ = some v := fun o v hv => (hb.cell (p := ⟨q, o, none⟩) hq).trans hv
        exact ⟨t _ _ x0, t _ _ x1, t _ _ x2, t _ _ x3, t _ _ x4, t _ _ y0, t _ _ y1, t _ _ y2, t _ _ y3, t _ _ y4, hb⟩)
      clear hx hy hq x0 x1 x2 x3 x4 y0 y1 y2 y3 y4
      have HK := Lib.hid (And.intro hk1 hk2)
      clear hk hlt hk1 hk2 hkl hal
      go_wp2_with (fail)
      try clear hh
      go_region_held3 (fun w' => w'.cell? ⟨q, k * 5, none⟩ = some (.int .u32 x.a) ∧ w'.cell? ⟨q, k * 5 + 1, none⟩ = some (.string ⟨#[]⟩) ∧ w'.cell? ⟨q, k * 5 + 2, none⟩ = some (.bool false) ∧ w'.cell? ⟨q, k * 5 + 3, none⟩ = some (.int .i64 x.f) ∧ w'.cell? ⟨q, k * 5 + 4, none⟩ = some (.int .i64 x.r) ∧ w'.cell? ⟨q, a * 5, none⟩ = some (.int .u32 y.a) ∧ w'.cell? ⟨q, a * 5 + 1, none⟩ = some (.string ⟨#[]⟩) ∧ w'.cell? ⟨q, a * 5 + 2, none⟩ = some (.bool false) ∧ w'.cell? ⟨q, a * 5 + 3, none⟩ = some (.int .i64 y.f) ∧ w'.cell? ⟨q, a * 5 + 4, none⟩ = some (.int .i64 y.r) ∧ Below wr.heap.size wr w')
        (first | with_reducible assumption | with_reducible exact KF.out _ R0 | with_reducible exact KF.out _ R0.drew | with_reducible exact KF.out _ hb)
        (first | (go_at_call 36; with_reducible refine (HC.out _ (last11_2 (by assumption))).mono ?_; rintro e w' ⟨rfl, hb⟩))
      all_goals
        have HB2 := Lib.hid (show Below wr.heap.size wr _ from last11_2 (by assumption))
        go_wp2_with (fail)
        go_roundg (k - m)
        case measure => have := hj.out; have := HK.out; omega
        case rel => exact ⟨k, rfl, rfl, ⟨HK.out.1, by have := hj.out; have := HK.out; omega, rfl⟩, hB.out.trans (HB2.out.mono hB.out.size)⟩
    · have hje : j = m := by have := hj.out; omega
      subst hje
      have hltI : ¬ (j : Int) < (j : Int) := by omega
      have hw1 : IntKind.i64.wrap ((j : Int) - 1) = (a : Int) := by rw [IntKind.wrap_i64]; have := HAB.out; omega
      have haa : ¬ (a : Int) < (a : Int) := by omega
      clear hlt
      go_wp2_with (fail)
      go_loopg [13] 0 (fun gg v13 wi => v13 = .int .i64 (a : Int) ∧ wi = wr)
      case atStart => exact ⟨rfl, rfl⟩
      case round =>
        obtain ⟨rfl, hwi⟩ := hrel
        subst hwi
        go_wp2_with (fail)
        refine bodyPost_ret (results_none rfl _ _ _) rfl ?_
        exact ⟨rfl, hB.out⟩
set_option maxRecDepth 100000 in
set_option maxHeartbeats 8000000 in
theorem symBack2_any (xs : List Pe) (A : Option Addr) (c a m b : Nat) (w : World) (hS : PeS w A c xs) (hE : Even 36 xs) (hn : xs.length ≤ 100) (ham : a < m) (hmb : m < b) (hb : b ≤ xs.length) (h1 : m ≠ a + 1) (h2 : b = m + 1) :
    Calls Try.prog 99 #[.slice A xs.length c, .int .i64 (a : Int), .int .i64 (m : Int), .int .i64 (b : Int), .func (.func 36) #[] #[]] w fun e w' => e = .returned (.tuple #[]) ∧ Below w.heap.size w w' := by
  have hNI : (xs.length : Int) ≤ 100 := by omega
  have haI : (a : Int) ≤ 100 := by omega
  have hmI : (m : Int) ≤ 100 := by omega
  have hbI : (b : Int) ≤ 100 := by omega
  have ht0 : ((m : Int) - (a : Int) == 1) = false := by simp; omega
  have ht1 : ((b : Int) - (m : Int) == 1) = true := by simp; omega
  have HS := Lib.hid (And.intro hS (And.intro hE (And.intro hb hn)))
  have HAB := Lib.hid (And.intro ham (And.intro hmb h2))
  clear hS hE hn ham hmb hb h1 h2
  go_enter Try.func99, Try.ntmps99
  go_wp2_with (fail)
  go_loopg [14, 15, 16] (m - a) (fun gg v14 v15 _ wr => ∃ i : Nat, v14 = .int .i64 (i : Int) ∧ v15 = .int .i64 (m : Int) ∧ Aside (a ≤ i ∧ i ≤ m ∧ gg = m - i) ∧ Aside (Below w.heap.size w wr))
  case atStart => exact ⟨a, rfl, rfl, ⟨Nat.le_refl _, by have := HAB.out; omega, rfl⟩, Below.refl _ _⟩
  case round =>
    obtain ⟨i, rfl, rfl, hi, hB⟩ := hrel
    have hiI : (i : Int) ≤ 100 := by have := hi.out; omega
    by_cases hlt : i < m
    · have hltI : (i : Int) < (m : Int) := by omega
      obtain ⟨k, hk⟩ : ∃ k, (i + m) / 2 = k := ⟨_, rfl⟩
      have hh : ((i : Int) + (m : Int)) / 2 = (k : Int) := by omega
      have hk1 : i ≤ k := by omega
      have hk2 : k < m := by omega
      have hml : m < xs.length := by have := HAB.out; have := HS.out.2.2; omega
      have hkl : k < xs.length := by omega
      have hkI : (k : Int) ≤ 100 := by omega
      obtain ⟨x, hx⟩ : ∃ x, xs[m]? = some x := ⟨_, List.getElem?_eq_getElem (by omega)⟩
      obtain ⟨y, hy⟩ : ∃ y, xs[k]? = some y := ⟨_, List.getElem?_eq_getElem (by omega)⟩
      obtain ⟨q, rfl, hq, x0, x1, x2, x3, x4⟩ := (HS.out.1.below hB.out).cells hx
      obtain ⟨q', hq', _, y0, y1, y2, y3, y4⟩ := (HS.out.1.below hB.out).cells hy
      injection hq' with hq'
      injection hq' with hq' _ _
      subst hq'
      have HC := Lib.hid (HS.out.2.1.call (List.mem_of_getElem? hx) (List.mem_of_getElem? hy) (V := wr))
      dsimp only [Pe.val] at HC
      have mN : (m : Int) < (xs.length : Int) := by omega
      have kN : (k : Int) < (xs.length : Int) := by omega
      have R0 : Below wr.heap.size wr wr := Below.refl _ _
      have KF : RowKit.Hid (∀ w', Below wr.heap.size wr w' → w'.cell? ⟨q, m * 5, none⟩ = some (.int .u32 x.a) ∧ w'.cell? ⟨q, m * 5 + 1, none⟩ = some (.string ⟨#[]⟩) ∧ w'.cell? ⟨q, m * 5 + 2, none⟩ = some (.bool false) ∧ w'.cell? ⟨q, m * 5 + 3, none⟩ = some (.int .i64 x.f) ∧ w'.cell? ⟨q, m * 5 + 4, none⟩ = some (.int .i64 x.r) ∧ w'.cell? ⟨q, k * 5, none⟩ = some (.int .u32 y.a) ∧ w'.cell? ⟨q, k * 5 + 1, none⟩ = some (.string ⟨#[]⟩) ∧ w'.cell? ⟨q, k * 5 + 2, none⟩ = some (.bool false) ∧ w'.cell? ⟨q, k * 5 + 3, none⟩ = some (.int .i64 y.f) ∧ w'.cell? ⟨q, k * 5 + 4, none⟩ = some (.int .i64 y.r) ∧ Below wr.heap.size wr w') := Lib.hid (fun w' hb => by
        have t : ∀ o v, wr.cell? ⟨q, o, none⟩ = some v → w'.cell? ⟨q, o, none⟩ = some v := fun o v hv => (hb.cell (p := ⟨q, o, none⟩) hq).trans hv
        exact ⟨t _ _ x0, t _ _ x1, t _ _ x2, t _ _ x3, t _ _ x4, t _ _ y0, t _ _ y1, t _ _ y2, t _ _ y3, t _ _ y4, hb⟩)
      clear hx hy hq x0 x1 x2 x3 x4 y0 y1 y2 y3 y4
      have HK := Lib.hid (And.intro hk1 hk2)
      clear hk hlt hk1 hk2 hkl hml
      go_wp2_with (fail)
      try clear hh
      go_region_held3 (fun w' => w'.cell? ⟨q, m * 5, none⟩ = some (.int .u32 x.a) ∧ w'.cell? ⟨q, m * 5 + 1, none⟩ = some (.string ⟨#[]⟩) ∧ w'.cell? ⟨q, m * 5 + 2, none⟩ = some (.bool false) ∧ w'.cell? ⟨q, m * 5 + 3, none⟩ = some (.int .i64 x.f) ∧ w'.cell? ⟨q, m * 5 + 4, none⟩ = some (.int .i64 x.r) ∧ w'.cell? ⟨q, k * 5, none⟩ = some (.int .u32 y.a) ∧ w'.cell? ⟨q, k * 5 + 1, none⟩ = some (.string ⟨#[]⟩) ∧ w'.cell? ⟨q, k * 5 + 2, none⟩ = some (.bool false) ∧ w'.cell? ⟨q, k * 5 + 3, none⟩ = some (.int .i64 y.f) ∧ w'.cell? ⟨q, k * 5 + 4, none⟩ = some (.int .i64 y.r) ∧ Below wr.heap.size wr w')
        (first | with_reducible assumption | with_reducible exact KF.out _ R0 | with_reducible exact KF.out _ R0.drew | with_reducible exact KF.out _ hb)
        (first | (go_at_call 36; with_reducible refine (HC.out _ (last11_2 (by assumption))).mono ?_; rintro e w' ⟨rfl, hb⟩))
      all_goals
        have HB2 := Lib.hid (show Below wr.heap.size wr _ from last11_2 (by assumption))
        go_wp2_with (fail)
        go_roundg (m - (k + 1))
        case measure => have := hi.out; have := HK.out; omega
        case rel => exact ⟨k + 1, by go_num, rfl, ⟨by have := hi.out; have := HK.out; omega, by have := HK.out; omega, rfl⟩, hB.out.trans (HB2.out.mono hB.out.size)⟩
    · have hie : i = m := by have := hi.out; omega
      subst hie
      have hltI : ¬ (i : Int) < (i : Int) := by omega
      clear hlt
      go_wp2_with (fail)
      go_loopg [17] 0 (fun gg v17 wi => v17 = .int .i64 (i : Int) ∧ wi = wr)
      case atStart => exact ⟨rfl, rfl⟩
      case round =>
        obtain ⟨rfl, hwi⟩ := hrel
        subst hwi
        go_wp2_with (fail)
        refine bodyPost_ret (results_none rfl _ _ _) rfl ?_
        exact ⟨rfl, hB.out⟩
set_option maxRecDepth 100000 in
set_option maxHeartbeats 8000000 in
theorem symMidP2_any (xs : List Pe) (A : Option Addr) (c a m b : Nat) (w : World) (hS : PeS w A c xs) (hE : Even 36 xs) (hn : xs.length ≤ 100) (ham : a < m) (hmb : m < b) (hb : b ≤ xs.length) (h1 : m ≠ a + 1) (h2 : b ≠ m + 1)
    (IH : ∀ (a' b' : Nat) (W : World), PeS W A c xs → a' < m → m < b' → b' - a' < b - a → b' ≤ xs.length → Calls Try.prog 99 #[.slice A xs.length c, .int .i64 (a' : Int), .int .i64 (m : Int), .int .i64 (b' : Int), .func (.func 36) #[] #[]] W fun e w' => e = .returned (.tuple #[]) ∧ Below W.heap.size W w')
    (mid nn p lo : Nat) (hmid : (a + b) / 2 = mid) (hcs : mid < m) (hnn : nn = mid + m) (hp : p + 1 = nn) (hlo : lo + b = nn) :
    Calls Try.prog 99 #[.slice A xs.length c, .int .i64 (a : Int), .int .i64 (m : Int), .int .i64 (b : Int), .func (.func 36) #[] #[]] w fun e w' => e = .returned (.tuple #[]) ∧ Below w.heap.size w w' := by
  have hNI : (xs.length : Int) ≤ 100 := by omega
  have haI : (a : Int) ≤ 100 := by omega
  have hmI : (m : Int) ≤ 100 := by omega
  have hbI : (b : Int) ≤ 100 := by omega
  have ht0 : ((m : Int) - (a : Int) == 1) = false := by simp; omega
  have ht1 : ((b : Int) - (m : Int) == 1) = false := by simp; omega
  have hmi : ((a : Int) + (b : Int)) / 2 = (mid : Int) := by omega
  have hnI : (mid : Int) + (m : Int) = (nn : Int) := by omega
  have hpI : (nn : Int) - 1 = (p : Int) := by omega
  have hmidI : (mid : Int) ≤ 100 := by omega
  have hnnI : (nn : Int) ≤ 200 := by omega
  have hpp : (p : Int) ≤ 200 := by omega
  have hloI : (lo : Int) ≤ 100 := by omega
  have hc1 : (mid : Int) < (m : Int) := by omega
  have hloS : (nn : Int) - (b : Int) = (lo : Int) := by omega
  have HIH := Lib.hid IH
  have HS := Lib.hid (And.intro hS (And.intro hE (And.intro hb hn)))
  have HAB := Lib.hid (And.intro ham (And.intro hmb (And.intro hmid (And.intro hcs (And.intro hnn (And.intro hp hlo))))))
  clear hS hE hn ham hmb hb h1 h2 hmid hcs hnn hp hlo IH
  go_enter Try.func99, Try.ntmps99
  go_wp2_with (fail)
  go_loopg [20, 21, 23] (mid - lo) (fun gg v20 v21 _ wr => ∃ s : Nat, v20 = .int .i64 (s : Int) ∧ v21 = .int .i64 (mid : Int) ∧ Aside (lo ≤ s ∧ s ≤ mid ∧ gg = mid - s) ∧ Aside (Below w.heap.size w wr))
  case atStart => exact ⟨lo, rfl, rfl, ⟨Nat.le_refl _, by have := HAB.out; omega, rfl⟩, Below.refl _ _⟩
  case round =>
    obtain ⟨i, rfl, rfl, hi, hB⟩ := hrel
    have hiI : (i : Int) ≤ 100 := by have := hi.out; omega
    by_cases hlt : i < mid
    · have hltI : (i : Int) < (mid : Int) := by omega
      obtain ⟨k, hk⟩ : ∃ k, (i + mid) / 2 = k := ⟨_, rfl⟩
      have hh : ((i : Int) + (mid : Int)) / 2 = (k : Int) := by omega
      have hk1 : i ≤ k := by omega
      have hk2 : k < mid := by omega
      obtain ⟨u, hu⟩ : ∃ u, p - k = u := ⟨_, rfl⟩
      have hul : u < xs.length := by have := HAB.out; have := HS.out.2.2; have := hi.out; omega
      have hkl : k < xs.length := by have := HAB.out; have := HS.out.2.2; omega
      have hkI : (k : Int) ≤ 100 := by omega
      have huI : (u : Int) ≤ 100 := by omega
      have hw1 : IntKind.i64.wrap ((p : Int) - (k : Int)) = (u : Int) := by rw [IntKind.wrap_i64]; have := HAB.out; omega
      obtain ⟨x, hx⟩ : ∃ x, xs[u]? = some x := ⟨_, List.getElem?_eq_getElem (by omega)⟩
      obtain ⟨y, hy⟩ : ∃ y, xs[k]? = some y := ⟨_, List.getElem?_eq_getElem (by omega)⟩
      obtain ⟨q, rfl, hq, x0, x1, x2, x3, x4⟩ := (HS.out.1.below hB.out).cells hx
      obtain ⟨q', hq', _, y0, y1, y2, y3, y4⟩ := (HS.out.1.below hB.out).cells hy
      injection hq' with hq'
      injection hq' with hq' _ _
      subst hq'
      have HC := Lib.hid (HS.out.2.1.call (List.mem_of_getElem? hx) (List.mem_of_getElem? hy) (V := wr))
      dsimp only [Pe.val] at HC
      have uN : (u : Int) < (xs.length : Int) := by omega
      have kN : (k : Int) < (xs.length : Int) := by omega
      have R0 : Below wr.heap.size wr wr := Below.refl _ _
      have KF : RowKit.Hid (∀ w', Below wr.heap.size wr w' → w'.cell? ⟨q, u * 5, none⟩ = some (.int .u32 x.a) ∧ w'.cell? ⟨q, u * 5 + 1, none⟩ = some (.string ⟨#[]⟩) ∧ w'.cell? ⟨q, u * 5 + 2, none⟩ = some (.bool false) ∧ w'.cell? ⟨q, u * 5 + 3, none⟩ = some (.int .i64 x.f) ∧ w'.cell? ⟨q, u * 5 + 4, none⟩ = some (.int .i64 x.r) ∧ w'.cell? ⟨q, k * 5, none⟩ = some (.int .u32 y.a) ∧ w'.cell? ⟨q, k * 5 + 1, none⟩ = some (.string ⟨#[]⟩) ∧ w'.cell? ⟨q, k * 5 + 2, none⟩ = some (.bool false) ∧ w'.cell? ⟨q, k * 5 + 3, none⟩ = some (.int .i64 y.f) ∧ w'.cell? ⟨q, k * 5 + 4, none⟩ = some (.int .i64 y.r) ∧ Below wr.heap.size wr w') := Lib.hid (fun w' hb => by
        have t : ∀ o v, wr.cell? ⟨q, o, none⟩ = some v → w'.cell? ⟨q, o, none⟩ = some v := fun o v hv => (hb.cell (p := ⟨q, o, none⟩) hq).trans hv
        exact ⟨t _ _ x0, t _ _ x1, t _ _ x2, t _ _ x3, t _ _ x4, t _ _ y0, t _ _ y1, t _ _ y2, t _ _ y3, t _ _ y4, hb⟩)
      clear hx hy hq x0 x1 x2 x3 x4 y0 y1 y2 y3 y4
      have HK := Lib.hid (And.intro hk1 hk2)
      clear hk hlt hk1 hk2 hkl hul hu
      go_wp2_with (fail)
      try clear hh
      go_region_held3 (fun w' => w'.cell? ⟨q, u * 5, none⟩ = some (.int .u32 x.a) ∧ w'.cell? ⟨q, u * 5 + 1, none⟩ = some (.string ⟨#[]⟩) ∧ w'.cell? ⟨q, u * 5 + 2, none⟩ = some (.bool false) ∧ w'.cell? ⟨q, u * 5 + 3, none⟩ = some (.int .i64 x.f) ∧ w'.cell? ⟨q, u * 5 + 4, none⟩ = some (.int .i64 x.r) ∧ w'.cell? ⟨q, k * 5, none⟩ = some (.int .u32 y.a) ∧ w'.cell? ⟨q, k * 5 + 1, none⟩ = some (.string ⟨#[]⟩) ∧ w'.cell? ⟨q, k * 5 + 2, none⟩ = some (.bool false) ∧ w'.cell? ⟨q, k * 5 + 3, none⟩ = some (.int .i64 y.f) ∧ w'.cell? ⟨q, k * 5 + 4, none⟩ = some (.int .i64 y.r) ∧ Below wr.heap.size wr w')
        (first | with_reducible assumption | with_reducible exact KF.out _ R0 | with_reducible exact KF.out _ R0.drew | with_reducible exact KF.out _ hb)
        (first | (go_at_call 36; with_reducible refine (HC.out _ (last11_2 (by assumption))).mono ?_; rintro e w' ⟨rfl, hb⟩))
      all_goals
        have HB2 := Lib.hid (show Below wr.heap.size wr _ from last11_2 (by assumption))
        go_wp2_with (fail)
        go_roundg (mid - (k + 1))
        case measure => have := hi.out; have := HK.out; omega
        case rel => exact ⟨k + 1, by go_num, rfl, ⟨by have := hi.out; have := HK.out; omega, by have := HK.out; omega, rfl⟩, hB.out.trans (HB2.out.mono hB.out.size)⟩
    · have hie : i = mid := by have := hi.out; omega
      subst hie
      have hltI : ¬ (i : Int) < (i : Int) := by omega
      have hen : (nn : Int) - (i : Int) = (m : Int) := by have := HAB.out; omega
      have d0 : ¬ (m : Int) < (m : Int) := by omega
      have d1 : (m : Int) < (b : Int) := by have := HAB.out; omega
      have HR := Lib.hid (HIH.out i b wr (HS.out.1.below hB.out) HAB.out.2.2.2.1 HAB.out.2.1 (by have := HAB.out; omega) HS.out.2.2.1)
      clear hlt
      go_wp2_with (fail)
      with_reducible refine HR.out.mono ?_
      rintro e w2 ⟨rfl, hb⟩
      have HE2 := Lib.hid (hB.out.trans (hb.mono hB.out.size))
      clear hb
      go_wp2_with (fail)
      refine bodyPost_end (results_none rfl _ _ _) rfl ?_
      exact ⟨rfl, HE2.out⟩
set_option maxRecDepth 100000 in
set_option maxHeartbeats 8000000 in
theorem symMidQ2_any (xs : List Pe) (A : Option Addr) (c a m b : Nat) (w : World) (hS : PeS w A c xs) (hE : Even 36 xs) (hn : xs.length ≤ 100) (ham : a < m) (hmb : m < b) (hb : b ≤ xs.length) (h1 : m ≠ a + 1) (h2 : b ≠ m + 1)
    (IH : ∀ (a' b' : Nat) (W : World), PeS W A c xs → a' < m → m < b' → b' - a' < b - a → b' ≤ xs.length → Calls Try.prog 99 #[.slice A xs.length c, .int .i64 (a' : Int), .int .i64 (m : Int), .int .i64 (b' : Int), .func (.func 36) #[] #[]] W fun e w' => e = .returned (.tuple #[]) ∧ Below W.heap.size W w')
    (mid nn p lo : Nat) (hmid : (a + b) / 2 = mid) (hcs : m ≤ mid) (hnn : nn = mid + m) (hp : p + 1 = nn) (hlo : lo = a) :
    Calls Try.prog 99 #[.slice A xs.length c, .int .i64 (a : Int), .int .i64 (m : Int), .int .i64 (b : Int), .func (.func 36) #[] #[]] w fun e w' => e = .returned (.tuple #[]) ∧ Below w.heap.size w w' := by
  have hNI : (xs.length : Int) ≤ 100 := by omega
  have haI : (a : Int) ≤ 100 := by omega
  have hmI : (m : Int) ≤ 100 := by omega
  have hbI : (b : Int) ≤ 100 := by omega
  have ht0 : ((m : Int) - (a : Int) == 1) = false := by simp; omega
  have ht1 : ((b : Int) - (m : Int) == 1) = false := by simp; omega
  have hmi : ((a : Int) + (b : Int)) / 2 = (mid : Int) := by omega
  have hnI : (mid : Int) + (m : Int) = (nn : Int) := by omega
  have hpI : (nn : Int) - 1 = (p : Int) := by omega
  have hmidI : (mid : Int) ≤ 100 := by omega
  have hnnI : (nn : Int) ≤ 200 := by omega
  have hpp : (p : Int) ≤ 200 := by omega
  have hloI : (lo : Int) ≤ 100 := by omega
  have hc1 : ¬ (mid : Int) < (m : Int) := by omega
  subst hlo
  have HIH := Lib.hid IH
  have HS := Lib.hid (And.intro hS (And.intro hE (And.intro hb hn)))
  have HAB := Lib.hid (And.intro ham (And.intro hmb (And.intro hmid (And.intro hcs (And.intro hnn (And.intro hp (show lo = lo from rfl)))))))
  clear hS hE hn ham hmb hb h1 h2 hmid hcs hnn hp IH
  go_enter Try.func99, Try.ntmps99
  go_wp2_with (fail)
  go_loopg [20, 21, 23] (m - lo) (fun gg v20 v21 _ wr => ∃ s : Nat, v20 = .int .i64 (s : Int) ∧ v21 = .int .i64 (m : Int) ∧ Aside (lo ≤ s ∧ s ≤ m ∧ gg = m - s) ∧ Aside (Below w.heap.size w wr))
  case atStart => exact ⟨lo, rfl, rfl, ⟨Nat.le_refl _, by have := HAB.out; omega, rfl⟩, Below.refl _ _⟩
  case round =>
    obtain ⟨i, rfl, rfl, hi, hB⟩ := hrel
    have hiI : (i : Int) ≤ 100 := by have := hi.out; omega
    by_cases hlt : i < m
    · have hltI : (i : Int) < (m : Int) := by omega
      obtain ⟨k, hk⟩ : ∃ k, (i + m) / 2 = k := ⟨_, rfl⟩
      have hh : ((i : Int) + (m : Int)) / 2 = (k : Int) := by omega
      have hk1 : i ≤ k := by omega
      have hk2 : k < m := by omega
      obtain ⟨u, hu⟩ : ∃ u, p - k = u := ⟨_, rfl⟩
      have hul : u < xs.length := by have := HAB.out; have := HS.out.2.2; have := hi.out; omega
      have hkl : k < xs.length := by have := HAB.out; have := HS.out.2.2; omega
      have hkI : (k : Int) ≤ 100 := by omega
      have huI : (u : Int) ≤ 100 := by omega
      have hw1 : IntKind.i64.wrap ((p : Int) - (k : Int)) = (u : Int) := by rw [IntKind.wrap_i64]; have := HAB.out; omega
      obtain ⟨x, hx⟩ : ∃ x, xs[u]? = some x := ⟨_, List.getElem?_eq_getElem (by omega)⟩
      obtain ⟨y, hy⟩ : ∃ y, xs[k]? = some y := ⟨_, List.getElem?_eq_getElem (by omega)⟩
      obtain ⟨q, rfl, hq, x0, x1, x2, x3, x4⟩ := (HS.out.1.below hB.out).cells hx
      obtain ⟨q', hq', _, y0, y1, y2, y3, y4⟩ := (HS.out.1.below hB.out).cells hy
      injection hq' with hq'
      injection hq' with hq' _ _
      subst hq'
      have HC := Lib.hid (HS.out.2.1.call (List.mem_of_getElem? hx) (List.mem_of_getElem? hy) (V := wr))
      dsimp only [Pe.val] at HC
      have uN : (u : Int) < (xs.length : Int) := by omega
      have kN : (k : Int) < (xs.length : Int) := by omega
      have R0 : Below wr.heap.size wr wr := Below.refl _ _
      have KF : RowKit.Hid (∀ w', Below wr.heap.size wr w' → w'.cell? ⟨q, u * 5, none⟩ = some (.int .u32 x.a) ∧ w'.cell? ⟨q, u * 5 + 1, none⟩ = some (.string ⟨#[]⟩) ∧ w'.cell? ⟨q, u * 5 + 2, none⟩ = some (.bool false) ∧ w'.cell? ⟨q, u * 5 + 3, none⟩ = some (.int .i64 x.f) ∧ w'.cell? ⟨q, u * 5 + 4, none⟩ = some (.int .i64 x.r) ∧ w'.cell? ⟨q, k * 5, none⟩ = some (.int .u32 y.a) ∧ w'.cell? ⟨q, k * 5 + 1, none⟩ = some (.string ⟨#[]⟩) ∧ w'.cell? ⟨q, k * 5 + 2, none⟩ = some (.bool false) ∧ w'.cell? ⟨q, k * 5 + 3, none⟩ = some (.int .i64 y.f) ∧ w'.cell? ⟨q, k * 5 + 4, none⟩ = some (.int .i64 y.r) ∧ Below wr.heap.size wr w') := Lib.hid (fun w' hb => by
        have t : ∀ o v, wr.cell? ⟨q, o, none⟩ = some v → w'.cell? ⟨q, o, none⟩ = some v := fun o v hv => (hb.cell (p := ⟨q, o, none⟩) hq).trans hv
        exact ⟨t _ _ x0, t _ _ x1, t _ _ x2, t _ _ x3, t _ _ x4, t _ _ y0, t _ _ y1, t _ _ y2, t _ _ y3, t _ _ y4, hb⟩)
      clear hx hy hq x0 x1 x2 x3 x4 y0 y1 y2 y3 y4
      have HK := Lib.hid (And.intro hk1 hk2)
      clear hk hlt hk1 hk2 hkl hul hu
      go_wp2_with (fail)
      try clear hh
      go_region_held3 (fun w' => w'.cell? ⟨q, u * 5, none⟩ = some (.int .u32 x.a) ∧ w'.cell? ⟨q, u * 5 + 1, none⟩ = some (.string ⟨#[]⟩) ∧ w'.cell? ⟨q, u * 5 + 2, none⟩ = some (.bool false) ∧ w'.cell? ⟨q, u * 5 + 3, none⟩ = some (.int .i64 x.f) ∧ w'.cell? ⟨q, u * 5 + 4, none⟩ = some (.int .i64 x.r) ∧ w'.cell? ⟨q, k * 5, none⟩ = some (.int .u32 y.a) ∧ w'.cell? ⟨q, k * 5 + 1, none⟩ = some (.string ⟨#[]⟩) ∧ w'.cell? ⟨q, k * 5 + 2, none⟩ = some (.bool false) ∧ w'.cell? ⟨q, k * 5 + 3, none⟩ = some (.int .i64 y.f) ∧ w'.cell? ⟨q, k * 5 + 4, none⟩ = some (.int .i64 y.r) ∧ Below wr.heap.size wr w')
        (first | with_reducible assumption | with_reducible exact KF.out _ R0 | with_reducible exact KF.out _ R0.drew | with_reducible exact KF.out _ hb)
        (first | (go_at_call 36; with_reducible refine (HC.out _ (last11_2 (by assumption))).mono ?_; rintro e w' ⟨rfl, hb⟩))
      all_goals
        have HB2 := Lib.hid (show Below wr.heap.size wr _ from last11_2 (by assumption))
        go_wp2_with (fail)
        go_roundg (m - (k + 1))
        case measure => have := hi.out; have := HK.out; omega
        case rel => exact ⟨k + 1, by go_num, rfl, ⟨by have := hi.out; have := HK.out; omega, by have := HK.out; omega, rfl⟩, hB.out.trans (HB2.out.mono hB.out.size)⟩
    · have hie : i = m := by have := hi.out; omega
      subst hie
      have hltI : ¬ (i : Int) < (i : Int) := by omega
      have hen : (nn : Int) - (i : Int) = (mid : Int) := by have := HAB.out; omega
      have d0 : ¬ (mid : Int) < (mid : Int) := by omega
      have d1 : (lo : Int) < (i : Int) := by have := HAB.out; omega
      clear hlt
      by_cases him : i < mid
      · have d2 : (i : Int) < (mid : Int) := by omega
        have HR := Lib.hid (HIH.out lo mid wr (HS.out.1.below hB.out) HAB.out.1 him (by have := HAB.out; omega) (by have := HAB.out; have := HS.out.2.2; omega))
        clear him
        go_wp2_with (fail)
        with_reducible refine HR.out.mono ?_
        rintro e w2 ⟨rfl, hb⟩
        have HE2 := Lib.hid (hB.out.trans (hb.mono hB.out.size))
        clear hb
        go_wp2_with (fail)
        refine bodyPost_end (results_none rfl _ _ _) rfl ?_
        exact ⟨rfl, HE2.out⟩
      · have d2 : ¬ (i : Int) < (mid : Int) := by omega
        clear him
        go_wp2_with (fail)
        refine bodyPost_end (results_none rfl _ _ _) rfl ?_
        exact ⟨rfl, hB.out⟩
theorem symEq2_any (xs : List Pe) (A : Option Addr) (c : Nat) (hE : Even 36 xs) (hn : xs.length ≤ 100) : ∀ (n a m b : Nat) (w : World), b - a < n → PeS w A c xs → a < m → m < b → b ≤ xs.length →
    Calls Try.prog 99 #[.slice A xs.length c, .int .i64 (a : Int), .int .i64 (m : Int), .int .i64 (b : Int), .func (.func 36) #[] #[]] w fun e w' => e = .returned (.tuple #[]) ∧ Below w.heap.size w w'
  | 0, a, m, b, w, h, _, _, _, _ => absurd h (Nat.not_lt_zero _)
  | n + 1, a, m, b, w, h, hS, ham, hmb, hb => by
    have ih := symEq2_any xs A c hE hn n
    by_cases h1 : m = a + 1
    · exact symFront2_any xs A c a m b w hS hE hn ham hmb hb h1
    · by_cases h2 : b = m + 1
      · exact symBack2_any xs A c a m b w hS hE hn ham hmb hb h1 h2
      · have IH : ∀ (a' b' : Nat) (W : World), PeS W A c xs → a' < m → m < b' → b' - a' < b - a → b' ≤ xs.length → Calls Try.prog 99 #[.slice A xs.length c, .int .i64 (a' : Int), .int .i64 (m : Int), .int .i64 (b' : Int), .func (.func 36) #[] #[]] W fun e w' => e = .returned (.tuple #[]) ∧ Below W.heap.size W w' := fun a' b' W p1 p2 p3 p4 p5 => ih a' m b' W (by omega) p1 p2 p3 p5
        by_cases h3 : (a + b) / 2 < m
        · exact symMidP2_any xs A c a m b w hS hE hn ham hmb hb h1 h2 IH ((a + b) / 2) ((a + b) / 2 + m) ((a + b) / 2 + m - 1) ((a + b) / 2 + m - b) rfl h3 rfl (by omega) (by omega)
        · exact symMidQ2_any xs A c a m b w hS hE hn ham hmb hb h1 h2 IH ((a + b) / 2) ((a + b) / 2 + m) ((a + b) / 2 + m - 1) a rfl (by omega) rfl (by omega) rfl
end Go.Proofs.Ytfipacfompihkaa
