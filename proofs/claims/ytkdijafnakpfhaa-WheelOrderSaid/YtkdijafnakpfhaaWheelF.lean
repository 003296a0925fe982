/- The document's first, Next and Pop of layer 35. Conditions: none. -/
import Derived.Test.YtkdijafnakpfhaaWheelR
namespace Go.Proofs.Ytkdijafnakpfhaa
open Go.RowKit Go.Lib

theorem minV_of {v : List Th} {a : Nat} (ha : a < v.length) (h : ∀ i, i < v.length → (ath v a).le (ath v i)) : minV v = some (ath v a) := by
  cases hm : minV v with
  | none => rw [minV_none.1 hm] at ha; exact absurd ha (Nat.not_lt_zero _)
  | some y =>
    obtain ⟨h1, h2⟩ := minV_mem hm
    obtain ⟨j, hj, rfl⟩ := mem_ath h1
    rw [Th.le_anti (h2 _ (ath_mem ha)) (h j hj)]

set_option maxRecDepth 100000 in
set_option maxHeartbeats 1000000 in
theorem first_any {w : World} {A : Option Addr} {c : Nat} {v : List Th} (h : TS w A c v) (hl : v.length ≤ 1000) (h0 : 0 < v.length) :
    Calls Try.prog 22 #[.slice A v.length c] w (fun e w' => ∃ a : Nat, e = .returned (.int .i64 (a : Int)) ∧ a < v.length ∧ minV v = some (ath v a) ∧ Below w.heap.size w w') := by
  have HT := Lib.hid (And.intro h (And.intro hl h0))
  have hlI : (v.length : Int) ≤ 1000 := by omega
  clear h hl h0
  go_enter Try.func22, Try.ntmps22
  go_wp2_with (fail)
  go_loopg [3, 8] (v.length + 1) (fun gg v3 v8 wr => ∃ (k : Nat) (z : Int), v8 = .int .i64 (k : Int) ∧ v3 = .int .i64 z ∧ k ≤ v.length ∧ Aside (gg + k = v.length + 1) ∧
    Aside (((k = 0 ∧ z = -1) ∨ ∃ a : Nat, a < k ∧ z = (a : Int) ∧ ∀ i, i < k → (ath v a).le (ath v i)) ∧ Below w.heap.size w wr))
  case atStart => exact ⟨0, -1, rfl, rfl, by omega, rfl, .inl ⟨rfl, rfl⟩, Below.refl _ _⟩
  case round =>
    obtain ⟨k, z, rfl, rfl, hk, hg, hI⟩ := hrel
    by_cases hlt : k < v.length
    · obtain ⟨q, rfl, hql, d0', d1'⟩ := HT.out.1.at_ hlt
      have hltI : (k : Int) < (v.length : Int) := by omega
      obtain ⟨x, hx⟩ : ∃ x, ath v k = x := ⟨_, rfl⟩
      rw [hx] at d0' d1'
      have d0 := (hI.out.2.cell (p := ⟨q, k * 2, none⟩) hql).trans d0'
      have d1 := (hI.out.2.cell (p := ⟨q, k * 2 + 1, none⟩) hql).trans d1'
      have HX := Lib.hid (And.intro hx hlt)
      clear hlt hx d0' d1'
      rcases hI.out.1 with ⟨rfl, rfl⟩ | ⟨a, hak, rfl, hle⟩
      · obtain ⟨xi, xt⟩ := x
        have hX := Blk.new wr 59 #[.int .i64 xi, .int .i64 xt]
        have x0 := hX.cell 0
        have x1 := hX.cell 1
        have HB := Lib.hid (hI.out.2.alloc hI.out.2.size (.cells #[.int .i64 xi, .int .i64 xt] 59))
        clear hX
        obtain ⟨V, hV⟩ : ∃ V, wr.alloc (.cells #[.int .i64 xi, .int .i64 xt] 59) = V := ⟨_, rfl⟩
        rw [hV] at x0 x1 HB
        have hS0 : V.cell? ⟨wr.heap.size, 0, none⟩ = some (.int .i64 xi) ∧ V.cell? ⟨wr.heap.size, 1, none⟩ = some (.int .i64 xt) := ⟨x0, x1⟩
        have hS1 : V.drew.cell? ⟨wr.heap.size, 0, none⟩ = some (.int .i64 xi) ∧ V.drew.cell? ⟨wr.heap.size, 1, none⟩ = some (.int .i64 xt) := hS0
        go_wp2_with (fail)
        clear hV hS0 hS1
        go_quiet (fail)
        go_wp2_with (fail)
        go_roundg (v.length - 0)
        case measure => have := hg.out; omega
        case rel => exact ⟨1, 0, rfl, rfl, by have := HX.out.2; omega, (show _ = _ by have := HX.out.2; omega), .inr ⟨0, by omega, rfl, fun i hi => by rw [show i = 0 by omega]; exact Th.le_refl _⟩, below_drewN HB.out _⟩
      · have HA := Lib.hid (And.intro hak hle)
        have hav : a < v.length := by omega
        obtain ⟨q', hq', _, e0', e1'⟩ := HT.out.1.at_ hav
        injection hq' with hq'
        injection hq' with hq'
        subst hq'
        obtain ⟨y, hy⟩ : ∃ y, ath v a = y := ⟨_, rfl⟩
        rw [hy] at e0' e1'
        have e0 := (hI.out.2.cell (p := ⟨q, a * 2, none⟩) hql).trans e0'
        have e1 := (hI.out.2.cell (p := ⟨q, a * 2 + 1, none⟩) hql).trans e1'
        have HY := Lib.hid hy
        have haI : (a : Int) < (v.length : Int) := by omega
        have ha0 : (0 : Int) ≤ (a : Int) := by omega
        obtain ⟨xi, xt⟩ := x
        obtain ⟨yi, yt⟩ := y
        have hqr : q < wr.heap.size := by have := hI.out.2.size; omega
        have hX := Blk.new wr 59 #[.int .i64 xi, .int .i64 xt]
        have x0 := hX.cell 0
        have x1 := hX.cell 1
        have y0 := (World.cell?_alloc_lt wr (.cells #[.int .i64 xi, .int .i64 xt] 59) ⟨q, a * 2, none⟩ hqr).trans e0
        have y1 := (World.cell?_alloc_lt wr (.cells #[.int .i64 xi, .int .i64 xt] 59) ⟨q, a * 2 + 1, none⟩ hqr).trans e1
        have HB := Lib.hid (hI.out.2.alloc hI.out.2.size (.cells #[.int .i64 xi, .int .i64 xt] 59))
        clear hX hak hle hav hy e0' e1' e0 e1
        obtain ⟨V, hV⟩ : ∃ V, wr.alloc (.cells #[.int .i64 xi, .int .i64 xt] 59) = V := ⟨_, rfl⟩
        rw [hV] at x0 x1 y0 y1 HB
        obtain ⟨bb, hbb⟩ : ∃ bb : Bool, decide (xt < yt ∨ (xt = yt ∧ xi < yi)) = bb := ⟨_, rfl⟩
        have HBB := Lib.hid hbb
        clear hbb
        have hS0 : V.cell? ⟨wr.heap.size, 0, none⟩ = some (.int .i64 xi) ∧ V.cell? ⟨wr.heap.size, 1, none⟩ = some (.int .i64 xt) ∧ V.cell? ⟨q, a * 2, none⟩ = some (.int .i64 yi) ∧ V.cell? ⟨q, a * 2 + 1, none⟩ = some (.int .i64 yt) := ⟨x0, x1, y0, y1⟩
        have hS1 : V.drew.cell? ⟨wr.heap.size, 0, none⟩ = some (.int .i64 xi) ∧ V.drew.cell? ⟨wr.heap.size, 1, none⟩ = some (.int .i64 xt) ∧ V.drew.cell? ⟨q, a * 2, none⟩ = some (.int .i64 yi) ∧ V.drew.cell? ⟨q, a * 2 + 1, none⟩ = some (.int .i64 yt) := hS0
        go_wp2_with (fail)
        clear hV
        have q0 : decide ((a : Int) < 0) = false := decide_eq_false (by omega)
        by_cases c1 : xt < yt
        · have LT := Lib.hid (show Th.lt ⟨xi, xt⟩ ⟨yi, yt⟩ from .inl c1)
          have q1 : decide (xt < yt) = true := decide_eq_true c1
          clear hS0 hS1 c1
          go_quiet (fail)
          go_wp2_with (fail)
          go_roundg (v.length - k)
          case measure => have := hg.out; omega
          case rel =>
            refine ⟨k + 1, k, by go_num, rfl, by have := HX.out.2; omega, (show _ = _ by have := HX.out.2; omega), .inr ⟨k, by omega, rfl, fun i hi => ?_⟩, below_drewN HB.out _⟩
            rw [HX.out.1]
            by_cases hik : i = k
            · rw [hik, HX.out.1]; exact Th.le_refl _
            · have := HA.out.2 i (by omega)
              rw [HY.out] at this
              exact Th.le_trans (Th.lt.le LT.out) this
        · have q1 : decide (xt < yt) = false := decide_eq_false c1
          by_cases c2 : xt = yt
          · have q2 : (xt == yt) = true := by simp [c2]
            by_cases c3 : xi < yi
            · have LT := Lib.hid (show Th.lt ⟨xi, xt⟩ ⟨yi, yt⟩ from .inr ⟨c2, c3⟩)
              have q3 : decide (xi < yi) = true := decide_eq_true c3
              clear c1 c2 c3
              go_region_held3 (fun w' => w'.cell? ⟨wr.heap.size, 0, none⟩ = some (.int .i64 xi) ∧ w'.cell? ⟨wr.heap.size, 1, none⟩ = some (.int .i64 xt) ∧ w'.cell? ⟨q, a * 2, none⟩ = some (.int .i64 yi) ∧ w'.cell? ⟨q, a * 2 + 1, none⟩ = some (.int .i64 yt))
                (first | with_reducible assumption) (fail)
              go_wp2_with (fail)
              go_roundg (v.length - k)
              case measure => have := hg.out; omega
              case rel =>
                refine ⟨k + 1, k, by go_num, rfl, by have := HX.out.2; omega, (show _ = _ by have := HX.out.2; omega), .inr ⟨k, by omega, rfl, fun i hi => ?_⟩, HB.out.drew⟩
                rw [HX.out.1]
                by_cases hik : i = k
                · rw [hik, HX.out.1]; exact Th.le_refl _
                · have := HA.out.2 i (by omega)
                  rw [HY.out] at this
                  exact Th.le_trans (Th.lt.le LT.out) this
            · have GE := Lib.hid (show Th.le ⟨yi, yt⟩ ⟨xi, xt⟩ from .inr ⟨c2.symm, by show yi ≤ xi; omega⟩)
              have q3 : decide (xi < yi) = false := decide_eq_false c3
              clear c1 c2 c3
              go_region_held3 (fun w' => w'.cell? ⟨wr.heap.size, 0, none⟩ = some (.int .i64 xi) ∧ w'.cell? ⟨wr.heap.size, 1, none⟩ = some (.int .i64 xt) ∧ w'.cell? ⟨q, a * 2, none⟩ = some (.int .i64 yi) ∧ w'.cell? ⟨q, a * 2 + 1, none⟩ = some (.int .i64 yt))
                (first | with_reducible assumption) (fail)
              go_wp2_with (fail)
              go_roundg (v.length - k)
              case measure => have := hg.out; omega
              case rel =>
                refine ⟨k + 1, a, by go_num, rfl, by have := HX.out.2; omega, (show _ = _ by have := HX.out.2; omega), .inr ⟨a, by have := HA.out.1; omega, rfl, fun i hi => ?_⟩, HB.out.drew⟩
                by_cases hik : i = k
                · rw [hik, HX.out.1, HY.out]; exact GE.out
                · exact HA.out.2 i (by omega)
          · have q2 : (xt == yt) = false := by simp [c2]
            have GE := Lib.hid (show Th.le ⟨yi, yt⟩ ⟨xi, xt⟩ from .inl (by show yt < xt; omega))
            clear c1 c2
            clear hS0 hS1
            go_quiet (fail)
            go_wp2_with (fail)
            go_roundg (v.length - k)
            case measure => have := hg.out; omega
            case rel =>
              refine ⟨k + 1, a, by go_num, rfl, by have := HX.out.2; omega, (show _ = _ by have := HX.out.2; omega), .inr ⟨a, by have := HA.out.1; omega, rfl, fun i hi => ?_⟩, below_drewN HB.out _⟩
              by_cases hik : i = k
              · rw [hik, HX.out.1, HY.out]; exact GE.out
              · exact HA.out.2 i (by omega)
    · have hltI : ¬ (k : Int) < (v.length : Int) := by omega
      obtain rfl : k = v.length := by omega
      clear hlt
      rcases hI.out.1 with ⟨h0, _⟩ | ⟨a, hak, rfl, hle⟩
      · exact absurd h0 (by have := HT.out.2.2; omega)
      · have HJ := Lib.hid (And.intro hI.out.2 (And.intro hak hle))
        clear hI hak hle
        go_wp2_with (fail)
        go_ret
        exact ⟨a, rfl, HJ.out.2.1, minV_of HJ.out.2.1 HJ.out.2.2, HJ.out.1⟩
end Go.Proofs.Ytkdijafnakpfhaa
