/- Stable sorting of peers that are all equal, as a whole. Conditions: none. -/
import Derived.Test.YtfipacfompihkaaPeSort1
namespace Go.Proofs.Ytfipacfompihkaa
open Go.RowKit Go.Lib

theorem insE_1 {xs : List Pe} {A : Option Addr} {c a b : Nat} {w W : World} (hS : PeS w A c xs) (hE : Even 34 xs) (hn : xs.length ≤ 100) (hb : b ≤ xs.length) (ha : a ≤ xs.length) (hW : Below w.heap.size w W) :
    Calls Try.prog 98 #[.slice A xs.length c, .int .i64 (a : Int), .int .i64 (b : Int), .func (.func 34) #[] #[]] W fun e w' => e = .returned (.tuple #[]) ∧ Below w.heap.size w w' :=
  (insEq1_any xs A c a b W (hS.below hW) hE hn hb ha).mono fun e w' ⟨h1, h2⟩ => ⟨h1, hW.trans (h2.mono hW.size)⟩
theorem symE_1 {xs : List Pe} {A : Option Addr} {c a m b : Nat} {w W : World} (hS : PeS w A c xs) (hE : Even 34 xs) (hn : xs.length ≤ 100) (ham : a < m) (hmb : m < b) (hb : b ≤ xs.length) (hW : Below w.heap.size w W) :
    Calls Try.prog 99 #[.slice A xs.length c, .int .i64 (a : Int), .int .i64 (m : Int), .int .i64 (b : Int), .func (.func 34) #[] #[]] W fun e w' => e = .returned (.tuple #[]) ∧ Below w.heap.size w w' :=
  (symEq1_any xs A c hE hn (b - a + 1) a m b W (by omega) (hS.below hW) ham hmb hb).mono fun e w' ⟨h1, h2⟩ => ⟨h1, hW.trans (h2.mono hW.size)⟩
set_option maxRecDepth 100000 in
set_option maxHeartbeats 8000000 in
theorem stabEq1_any (xs : List Pe) (A : Option Addr) (c : Nat) (w : World) (hS : PeS w A c xs) (hE : Even 34 xs) (hn : xs.length ≤ 100) :
    Calls Try.prog 70 #[.slice A xs.length c, .int .i64 (xs.length : Int), .func (.func 34) #[] #[]] w fun e w' => e = .returned (.tuple #[]) ∧ Below w.heap.size w w' := by
  have hNI : (xs.length : Int) ≤ 100 := by omega
  have HS := Lib.hid (And.intro hS (And.intro hE hn))
  clear hS hE hn
  go_enter Try.func70, Try.ntmps70
  go_wp2_with (fail)
  go_loopg [7, 8] xs.length (fun gg v7 v8 wr => ∃ (a b : Nat), v7 = .int .i64 (a : Int) ∧ v8 = .int .i64 (b : Int) ∧ Aside (gg + a = xs.length ∧ b = a + 20) ∧ Aside (Below w.heap.size w wr))
  case atStart => exact ⟨0, 20, rfl, rfl, ⟨rfl, rfl⟩, Below.refl _ _⟩
  case round =>
    obtain ⟨a, b, rfl, rfl, hab, hB⟩ := hrel
    have haI : (a : Int) ≤ 100 := by have := hab.out; omega
    have hbI : (b : Int) ≤ 120 := by have := hab.out; omega
    by_cases hlt : b ≤ xs.length
    · have hltI : (b : Int) ≤ (xs.length : Int) := by omega
      have HC := Lib.hid (insE_1 HS.out.1 HS.out.2.1 HS.out.2.2 hlt (by have := hab.out; omega) hB.out (a := a))
      clear hlt
      go_wp2_with (fail)
      with_reducible refine HC.out.mono ?_
      rintro e w1 ⟨rfl, hb⟩
      have H1 := Lib.hid hb
      clear hb
      go_wp2_with (fail)
      go_roundg (xs.length - b)
      case measure => have := hab.out; have := hltI; omega
      case rel => exact ⟨b, b + 20, rfl, by go_num, ⟨by have := hltI; omega, rfl⟩, H1.out⟩
    · have hltI : ¬ (b : Int) ≤ (xs.length : Int) := by omega
      have HC := Lib.hid (insE_1 HS.out.1 HS.out.2.1 HS.out.2.2 (Nat.le_refl _) (by have := hab.out; omega) hB.out (a := a))
      clear hlt hB
      go_wp2_with (fail)
      with_reducible refine HC.out.mono ?_
      rintro e w1 ⟨rfl, hb⟩
      have H1 := Lib.hid hb
      clear hb hab HC
      go_wp2_with (fail)
      go_loopg [6, 7, 8, 9] (xs.length - 20) (fun gg v6 _ _ _ wr => ∃ (bs : Nat), v6 = .int .i64 (bs : Int) ∧ Aside (gg = xs.length - bs ∧ 1 ≤ bs ∧ bs ≤ 200) ∧ Aside (Below w.heap.size w wr))
      case atStart => exact ⟨20, rfl, (show _ ∧ _ ∧ _ from ⟨rfl, by omega, by omega⟩), H1.out⟩
      case round =>
        obtain ⟨bs, rfl, hbs, hB⟩ := hrel
        have hbsI : (bs : Int) ≤ 200 := by have := hbs.out; omega
        by_cases hlt2 : bs < xs.length
        · have hlt2I : (bs : Int) < (xs.length : Int) := by omega
          have HBS := Lib.hid (And.intro hlt2 hbs.out)
          clear hlt2 hbs
          go_wp2_with (fail)
          go_loopg [7, 8] xs.length (fun gg v7 v8 wr => ∃ (a b : Nat), v7 = .int .i64 (a : Int) ∧ v8 = .int .i64 (b : Int) ∧ Aside (gg + a = xs.length ∧ b = a + 2 * bs) ∧ Aside (Below w.heap.size w wr))
          case atStart => exact ⟨0, 2 * bs, rfl, by go_num, (show _ ∧ _ from ⟨rfl, by omega⟩), hB.out⟩
          case round =>
            obtain ⟨a, b, rfl, rfl, hab, hB⟩ := hrel
            have haI : (a : Int) ≤ 100 := by have := hab.out; omega
            have hbI : (b : Int) ≤ 500 := by have := hab.out; omega
            have hmI : (a : Int) + (bs : Int) = ((a + bs : Nat) : Int) := by omega
            obtain ⟨mm, hmm⟩ : ∃ mm, a + bs = mm := ⟨_, rfl⟩
            rw [hmm] at hmI
            have hmmI : (mm : Int) ≤ 300 := by omega
            by_cases hlt : b ≤ xs.length
            · have hltI : (b : Int) ≤ (xs.length : Int) := by omega
              have HC := Lib.hid (symE_1 HS.out.1 HS.out.2.1 HS.out.2.2 (a := a) (m := mm) (b := b) (by have := HBS.out; omega) (by have := hab.out; have := HBS.out; omega) hlt hB.out)
              clear hlt
              go_wp2_with (fail)
              with_reducible refine HC.out.mono ?_
              rintro e w1 ⟨rfl, hb⟩
              have H2 := Lib.hid hb
              clear hb
              go_wp2_with (fail)
              go_roundg (xs.length - b)
              case measure => have := hab.out; have := hltI; have := HBS.out; omega
              case rel => exact ⟨b, b + 2 * bs, rfl, by go_num, ⟨by have := hltI; omega, rfl⟩, H2.out⟩
            · have hltI : ¬ (b : Int) ≤ (xs.length : Int) := by omega
              clear hlt
              by_cases hm2 : mm < xs.length
              · have hm2I : (mm : Int) < (xs.length : Int) := by omega
                have HC := Lib.hid (symE_1 HS.out.1 HS.out.2.1 HS.out.2.2 (a := a) (m := mm) (b := xs.length) (by have := HBS.out; omega) hm2 (Nat.le_refl _) hB.out)
                clear hm2
                go_wp2_with (fail)
                with_reducible refine HC.out.mono ?_
                rintro e w1 ⟨rfl, hb⟩
                have H2 := Lib.hid hb
                clear hb
                go_wp2_with (fail)
                go_roundg (xs.length - bs * 2)
                case measure => have := HBS.out; omega
                case rel => exact ⟨bs * 2, by go_num, (show _ ∧ _ ∧ _ by have := HBS.out; exact ⟨rfl, by omega, by omega⟩), H2.out⟩
              · have hm2I : ¬ (mm : Int) < (xs.length : Int) := by omega
                clear hm2
                go_wp2_with (fail)
                go_roundg (xs.length - bs * 2)
                case measure => have := HBS.out; omega
                case rel => exact ⟨bs * 2, by go_num, (show _ ∧ _ ∧ _ by have := HBS.out; exact ⟨rfl, by omega, by omega⟩), hB.out⟩
        · have hlt2I : ¬ (bs : Int) < (xs.length : Int) := by omega
          clear hlt2
          go_wp2_with (fail)
          refine bodyPost_end (results_none rfl _ _ _) rfl ?_
          exact ⟨rfl, hB.out⟩
theorem sortEq1_any (xs : List Pe) (A : Option Addr) (c : Nat) (w : World) (hS : PeS w A c xs) (hE : Even 34 xs) (hn : xs.length ≤ 100) :
    Calls Try.prog 33 #[.slice A xs.length c, .func (.func 34) #[] #[]] w fun e w' => e = .returned (.tuple #[]) ∧ Below w.heap.size w w' := by
  have HC := Lib.hid (stabEq1_any xs A c w hS hE hn)
  clear hS hE
  go_enter Try.func33, Try.ntmps33
  go_wp2_with (fail)
  with_reducible refine HC.out.mono ?_
  rintro e w1 ⟨rfl, hb⟩
  have H1 := Lib.hid hb
  clear hb
  go_wp2_with (fail)
  refine bodyPost_end (results_none rfl _ _ _) rfl ?_
  exact ⟨rfl, H1.out⟩
end Go.Proofs.Ytfipacfompihkaa
