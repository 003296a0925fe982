/- The walk of slices.symMergeCmpFunc at places. The walk of slices.stableCmpFunc at up to 1000 places. -/
import Derived.Test.YthnngndnpigjbaaGreatSymB
import Derived.Deep.Cut
import Derived.Deep.CutRange
import Derived.Deep.DeepCutAuto
import Derived.Test.YthnngndnpigjbaaGreatStable
namespace Go.Proofs.YthnngndnpigjbaaGreat
open Go.RowKit Go.Lib

/-- A merge of fewer than n places does what it must. -/
def SymOkPl (g c N n : Nat) : Prop := ∀ (a m b : Nat) (X L R Y : List Pl) (w : World), L.length + R.length < n → Sl w 2 (.slice (some ⟨g, 0, none⟩) N c) N (plC (X ++ ((L ++ R) ++ Y))) → PlOk w g (L ++ R) →
  (X ++ ((L ++ R) ++ Y)).length = N → a = X.length → m = a + L.length → b = m + R.length → 1 ≤ L.length → 1 ≤ R.length → SrtK Pl.L cmpL L → SrtK Pl.L cmpL R →
  Calls Tryz.prog 101 #[.slice (some ⟨g, 0, none⟩) N c, .int .i64 (a : Int), .int .i64 (m : Int), .int .i64 (b : Int), .func (.func 72) #[] #[]] w (MgPostPl g c N X (L ++ R) Y w)

set_option maxRecDepth 100000 in
set_option maxHeartbeats 16000000 in
theorem sym_midPl (g c a m b N : Nat) (X L R Y : List Pl) (w : World) (hS : Sl w 2 (.slice (some ⟨g, 0, none⟩) N c) N (plC (X ++ ((L ++ R) ++ Y)))) (hP : PlOk w g (L ++ R))
    (hN : (X ++ ((L ++ R) ++ Y)).length = N) (hn : N ≤ 1000000) (ha : a = X.length) (hm : m = a + L.length) (hb : b = m + R.length) (hL2 : 2 ≤ L.length) (hR2 : 2 ≤ R.length) (hL : SrtK Pl.L cmpL L) (hR : SrtK Pl.L cmpL R)
    (IH : SymOkPl g c N (L.length + R.length)) :
    Calls Tryz.prog 101 #[.slice (some ⟨g, 0, none⟩) N c, .int .i64 (a : Int), .int .i64 (m : Int), .int .i64 (b : Int), .func (.func 72) #[] #[]] w (MgPostPl g c N X (L ++ R) Y w) := by
  have hN3 : N = X.length + (L.length + R.length + Y.length) := by rw [← hN]; simp; omega
  have hNI : (N : Int) ≤ 1000000 := by omega
  have haI : (a : Int) ≤ 1000000 := by omega
  have hmI : (m : Int) ≤ 1000000 := by omega
  have hbI : (b : Int) ≤ 1000000 := by omega
  have ht0 : ((m : Int) - (a : Int) == 1) = false := by simp; omega
  have ht1 : ((b : Int) - (m : Int) == 1) = false := by simp; omega
  obtain ⟨mid, hmid⟩ : ∃ mid, (a + b) / 2 = mid := ⟨_, rfl⟩
  obtain ⟨nn, hnn⟩ : ∃ nn, mid + m = nn := ⟨_, rfl⟩
  obtain ⟨p, hp⟩ : ∃ p, nn - 1 = p := ⟨_, rfl⟩
  have hh : ((a : Int) + (b : Int)) / 2 = (mid : Int) := by omega
  have hnI : (mid : Int) + (m : Int) = (nn : Int) := by omega
  have hpI : (nn : Int) - 1 = (p : Int) := by omega
  have hmidI : (mid : Int) ≤ 1000000 := by omega
  have hnnI : (nn : Int) ≤ 2000000 := by omega
  have hb1 : a + 2 ≤ mid ∧ mid + 2 ≤ b ∧ nn = mid + m ∧ p + 1 = nn ∧ 2 * mid ≤ a + b ∧ a + b ≤ 2 * mid + 1 := by omega
  obtain ⟨lo, hi, hlh⟩ : ∃ lo hi, (mid < m ∧ lo + b = nn ∧ hi = mid) ∨ (m ≤ mid ∧ lo = a ∧ hi = m) := by
    by_cases h : mid < m
    · exact ⟨nn - b, mid, .inl ⟨h, by omega, rfl⟩⟩
    · exact ⟨a, m, .inr ⟨by omega, rfl, rfl⟩⟩
  have hloI : (lo : Int) ≤ 1000000 := by omega
  have hhiI : (hi : Int) ≤ 1000000 := by omega
  have HS := Lib.hid (And.intro hS (And.intro hP (And.intro hL hR)))
  have HAB := Lib.hid (And.intro ha (And.intro hm (And.intro hb (And.intro hN3 (And.intro hb1 (And.intro hL2 hR2))))))
  have HLH := Lib.hid hlh
  have HIH := Lib.hid IH
  have HNN := Lib.hid (And.intro hN hn)
  clear hS hP hN hn ha hm hb hN3 hL hR hL2 hR2 hb1 hlh IH hmid hnn hp
  go_enter Tryz.func101, Tryz.ntmps101
  go_upto_if 140 with (fail)
  clear hh
  go_cut [20, 21] (fun s20 s21 wx => s20 = .int .i64 (lo : Int) ∧ s21 = .int .i64 (hi : Int) ∧ wx = w)
  case first =>
    by_cases h : (mid : Int) < (m : Int)
    all_goals
      go_wp2_with (fail)
      go_meet
      case rel => exact ⟨by congr 1; have := HLH.out; omega, by congr 1; have := HLH.out; omega, rfl⟩
  case rest =>
    obtain ⟨rfl, rfl, hw0⟩ := hcut
    have hw1 := hw0.symm
    subst hw1
    clear ht0 ht1
    go_wp2_with (fail)
    clear hnI hpI
    go_loopg [20, 21, 23] (hi - lo) (fun gg v20 v21 _ wr => ∃ s r : Nat, v20 = .int .i64 (s : Int) ∧ v21 = .int .i64 (r : Int) ∧ Aside (lo ≤ s ∧ s ≤ r ∧ r ≤ hi ∧ gg = r - s) ∧ Aside (s = lo ∨ ∃ x y, L[s - a - 1]? = some x ∧ R[nn - s - m]? = some y ∧ ¬ cmpL y.L x.L < 0) ∧ Aside (r = hi ∨ ∃ x y, R[p - r - m]? = some x ∧ L[r - a]? = some y ∧ cmpL x.L y.L < 0) ∧ Aside (Below w.heap.size w wr))
    case atStart => exact ⟨lo, hi, rfl, rfl, ⟨Nat.le_refl _, by have := HLH.out; have := HAB.out; omega, Nat.le_refl _, rfl⟩, .inl rfl, .inl rfl, Below.refl _ _⟩
    case round =>
      obtain ⟨i, j, rfl, rfl, hij, hlo, hhi, hB⟩ := hrel
      have hiI : (i : Int) ≤ 1000000 := by have := hij.out; omega
      have hjI : (j : Int) ≤ 1000000 := by have := hij.out; omega
      by_cases hlt : i < j
      · have hltI : (i : Int) < (j : Int) := by omega
        obtain ⟨k, hk⟩ : ∃ k, (i + j) / 2 = k := ⟨_, rfl⟩
        have hk1 : i ≤ k := by omega
        have hk2 : k < j := by omega
        obtain ⟨q, hq⟩ : ∃ q, p - k = q := ⟨_, rfl⟩
        have hkr : a ≤ k ∧ k < m ∧ m ≤ q ∧ q < b ∧ q + k = p := by have := hij.out; have := HLH.out; have := HAB.out; omega
        obtain ⟨x, hx⟩ : ∃ x, L[k - a]? = some x := ⟨_, List.getElem?_eq_getElem (by have := HAB.out; omega)⟩
        obtain ⟨y, hy⟩ : ∃ y, R[q - m]? = some y := ⟨_, List.getElem?_eq_getElem (by have := HAB.out; omega)⟩
        have hRow : Sl wr 2 (.slice (some ⟨g, 0, none⟩) N c) N (plC (X ++ ((L ++ R) ++ Y))) := HS.out.1.below hB.out HS.out.1.lt
        have hatx : (X ++ ((L ++ R) ++ Y))[q]? = some y := by
          have h1 := at_behindPl X (L ++ R) Y (k := q - a) (by have := HAB.out; simp; omega)
          rw [show X.length + (q - a) = q by have := HAB.out; omega, List.getElem?_append_right (l₁ := L) (l₂ := R) (by have := HAB.out; omega), show q - a - L.length = q - m by have := HAB.out; omega, hy] at h1
          exact h1
        have hats : (X ++ ((L ++ R) ++ Y))[k]? = some x := by
          have h1 := at_behindPl X (L ++ R) Y (k := k - a) (by have := HAB.out; simp; omega)
          rw [show X.length + (k - a) = k by have := HAB.out; omega, List.getElem?_append_left (l₁ := L) (l₂ := R) (by have := HAB.out; omega), hx] at h1
          exact h1
        have hPl : PlOk wr g (L ++ R) := HS.out.2.1.keep (KeepK.of_below hB.out fun i hi => hi.1)
        have hxm : y ∈ L ++ R := List.mem_append_right _ (List.mem_of_getElem? hy)
        have hsm : x ∈ L ++ R := List.mem_append_left _ (List.mem_of_getElem? hx)
        have hkN : (k : Int) < (N : Int) := by have := HAB.out; omega
        have hqN : (q : Int) < (N : Int) := by have := HAB.out; omega
        have hkI : (k : Int) ≤ 1000000 := by omega
        have hw1 : IntKind.i64.wrap ((p : Int) - (k : Int)) = (q : Int) := by rw [IntKind.wrap_i64]; omega
        have hh : ((i : Int) + (j : Int)) / 2 = (k : Int) := by omega
        have HY := Lib.hid (And.intro hx (And.intro hy (And.intro hk1 (And.intro hk2 hkr))))
        have c0 : wr.cell? ⟨g, q * 2, none⟩ = some (.string y.nm) := hRow.cell rfl (plC_0 hatx)
        have c1 : wr.cell? ⟨g, q * 2 + 1, none⟩ = some (.slice y.A y.L.length y.c) := hRow.cell rfl (plC_1 hatx)
        have d0 : wr.cell? ⟨g, k * 2, none⟩ = some (.string x.nm) := hRow.cell rfl (plC_0 hats)
        have d1 : wr.cell? ⟨g, k * 2 + 1, none⟩ = some (.slice x.A x.L.length x.c) := hRow.cell rfl (plC_1 hats)

        have hgl : g < wr.heap.size := hRow.lt g rfl
        have hcall : ∀ W, Below wr.heap.size wr W → Calls Tryz.prog 72 #[.agg #[.string y.nm, .slice y.A y.L.length y.c], .agg #[.string x.nm, .slice x.A x.L.length x.c]] W fun e w' => e = .returned (.int .i64 (cmpL y.L x.L)) ∧ Below W.heap.size W w' := fun W hW =>
          cmpPl_any y x W g (hPl.keep (KeepK.of_below hW fun i hi => hi.1)) hxm hsm
        have HCL := Lib.hid hcall
        have hrefl : Below wr.heap.size wr wr := Below.refl _ _
        obtain ⟨z, hz⟩ : ∃ z, cmpL y.L x.L = z := ⟨_, rfl⟩
        rw [hz] at HCL
        have HZ := Lib.hid hz
        clear hz hatx hats hPl hxm hsm hcall hRow hk hk1 hk2 hlt hx hy hq hkr
        by_cases hz0 : z < 0
        all_goals
          first | have hze : decide (z < 0) = true := decide_eq_true hz0 | have hze : decide (z < 0) = false := decide_eq_false hz0
          go_wp2_with (fail)

          try clear hh
          go_region_held3 (fun w' => w'.cell? ⟨g, q * 2, none⟩ = some (.string y.nm) ∧ w'.cell? ⟨g, q * 2 + 1, none⟩ = some (.slice y.A y.L.length y.c) ∧ w'.cell? ⟨g, k * 2, none⟩ = some (.string x.nm) ∧ w'.cell? ⟨g, k * 2 + 1, none⟩ = some (.slice x.A x.L.length x.c) ∧ wr.heap.size ≤ w'.heap.size ∧ Below wr.heap.size wr w')
            (first | assumption | exact ⟨c0, c1, d0, d1, Nat.le_refl _, hrefl⟩ | exact k4D (by assumption) | exact k4D ⟨c0, c1, d0, d1, Nat.le_refl _, hrefl⟩ | exact k4C hgl (by assumption) hb | exact k4C hgl (k4D (by assumption)) hb | exact k4C hgl (k4D ⟨c0, c1, d0, d1, Nat.le_refl _, hrefl⟩) hb | exact k4C hgl ⟨c0, c1, d0, d1, Nat.le_refl _, hrefl⟩ hb)
            (first
              | (go_at_call 72; refine (HCL.out _ (l6 (by assumption))).mono ?_; rintro e w' ⟨rfl, hb⟩; have hbs := hb.size))
          have hcc : w'.cell? ⟨g, q * 2, none⟩ = some (.string y.nm) ∧ w'.cell? ⟨g, q * 2 + 1, none⟩ = some (.slice y.A y.L.length y.c) ∧ w'.cell? ⟨g, k * 2, none⟩ = some (.string x.nm) ∧ w'.cell? ⟨g, k * 2 + 1, none⟩ = some (.slice x.A x.L.length x.c) ∧ wr.heap.size ≤ w'.heap.size ∧ Below wr.heap.size wr w' := by assumption
          obtain ⟨c0', c1', d0', d1', hsz', hbf0⟩ := hcc
          have HBF := Lib.hid hbf0
          clear hbf0 c0 c1 d0 d1 hrefl c0' c1' d0' d1'
        · try go_wp2_with (fail)
          go_roundg (k - i)
          case measure => have := hij.out; have := HY.out; omega
          case rel =>
            obtain ⟨h1, h2, h3, h4⟩ := hij.out
            obtain ⟨q1, q2, q3, q4, q5, q6, q7, q8, q9⟩ := HY.out
            refine ⟨i, k, rfl, rfl, ⟨by omega, by omega, by omega, rfl⟩, hlo, .inr ⟨y, x, ?_, q1, by rw [HZ.out]; exact hz0⟩, hB.out.trans (HBF.out.mono hB.out.size)⟩
            rw [show p - k - m = q - m by omega]; exact q2
        · try go_wp2_with (fail)
          go_roundg (j - (k + 1))
          case measure => have := hij.out; have := HY.out; omega
          case rel =>
            obtain ⟨h1, h2, h3, h4⟩ := hij.out
            obtain ⟨q1, q2, q3, q4, q5, q6, q7, q8, q9⟩ := HY.out
            refine ⟨k + 1, j, by go_num, rfl, ⟨by omega, by omega, h3, rfl⟩, .inr ⟨x, y, ?_, ?_, by rw [HZ.out]; exact hz0⟩, hhi, hB.out.trans (HBF.out.mono hB.out.size)⟩
            · rw [show k + 1 - a - 1 = k - a by omega]; exact q1
            · rw [show nn - (k + 1) - m = q - m by have := HAB.out; omega]; exact q2
      · have hltI : ¬ (i : Int) < (j : Int) := by omega
        obtain rfl : i = j := by have := hij.out; omega
        obtain ⟨en, hen⟩ : ∃ en, nn - i = en := ⟨_, rfl⟩
        obtain ⟨s, hs⟩ : ∃ s, i - a = s := ⟨_, rfl⟩
        obtain ⟨t, ht⟩ : ∃ t, en - m = t := ⟨_, rfl⟩
        have hst : i = a + s ∧ en = m + t ∧ s ≤ L.length ∧ t ≤ R.length ∧ s + t + a = mid := by have := hij.out; have := HLH.out; have := HAB.out; omega
        have hfin := symm_ok cmpL_tot (key := Pl.L) HS.out.2.2.1 HS.out.2.2.2 (i := s) (j := t)
          (by rcases hlo.out with h | ⟨x, y, h1, h2, h3⟩
              · have := HLH.out; have := HAB.out; omega
              · right; right
                refine ⟨x, y, ?_, ?_, h3⟩
                · rw [← hs]; exact h1
                · rw [show t = nn - i - m by omega]; exact h2)
          (by rcases hhi.out with h | ⟨x, y, h1, h2, h3⟩
              · have := HLH.out; have := HAB.out; omega
              · right; right
                refine ⟨x, y, ?_, ?_, h3⟩
                · rw [show t - 1 = p - i - m by have := HAB.out; omega]; exact h1
                · rw [← hs]; exact h2)
        obtain ⟨L1, hL1⟩ : ∃ L1, L.take s = L1 := ⟨_, rfl⟩
        obtain ⟨L2, hL2⟩ : ∃ L2, L.drop s = L2 := ⟨_, rfl⟩
        obtain ⟨R1, hR1⟩ : ∃ R1, R.take t = R1 := ⟨_, rfl⟩
        obtain ⟨R2, hR2⟩ : ∃ R2, R.drop t = R2 := ⟨_, rfl⟩
        have eL : L = L1 ++ L2 := by rw [← hL1, ← hL2, List.take_append_drop]
        have eR : R = R1 ++ R2 := by rw [← hR1, ← hR2, List.take_append_drop]
        have l1 : L1.length = s := by rw [← hL1, List.length_take]; omega
        have l2 : L2.length = L.length - s := by rw [← hL2, List.length_drop]
        have r1 : R1.length = t := by rw [← hR1, List.length_take]; omega
        have r2 : R2.length = R.length - t := by rw [← hR2, List.length_drop]
        have sL := HS.out.2.2.1
        have sR := HS.out.2.2.2
        rw [eL] at sL
        rw [eR] at sR
        have hjoin := fun (M1 M2 : List Pl) (g1 : SrtK Pl.L cmpL M1) (g2 : SrtK Pl.L cmpL M2) (e1 : StS Pl.L M1 (L1 ++ R1)) (e2 : StS Pl.L M2 (L2 ++ R2)) => symm_join cmpL_tot (key := Pl.L) (L := L) (R := R) (i := s) (j := t) hfin.1 hfin.2 g1 g2 (by rw [hL1, hR1]; exact e1) (by rw [hL2, hR2]; exact e2)
        have HJ := Lib.hid hjoin
        have HSS := Lib.hid (And.intro (srt_app.1 sL) (srt_app.1 sR))
        have HST := Lib.hid (And.intro hst (And.intro eL (And.intro eR (And.intro l1 (And.intro l2 (And.intro r1 r2))))))
        have HR0 := Lib.hid (HS.out.1.below hB.out HS.out.1.lt)
        have HK0 : Hid (KeepK (fun i => i < w.heap.size ∧ i ≠ g) w wr) := Lib.hid (KeepK.of_below hB.out fun i hi => hi.1)
        have henI2 : (en : Int) ≤ 2000000 := by have := HAB.out; omega
        have henI : (nn : Int) - (i : Int) = (en : Int) := by have := HAB.out; omega
        clear hfin hjoin hs ht hst hL1 hL2 hR1 hR2 eL eR l1 l2 r1 r2 sL sR hlo hhi hlt hen
        obtain ⟨tb, htb⟩ : ∃ tb, decide (i < m ∧ m < en) = tb := ⟨_, rfl⟩
        go_upto_region 39 with (fail)
        clear henI
        go_cut [185] (fun v wx => v = .bool tb ∧ wx = wr)
        case first =>
          as_aux_lemma =>
          by_cases h1 : i < m
          · have h1I : (i : Int) < (m : Int) := by omega
            by_cases h2 : m < en
            · have h2I : (m : Int) < (en : Int) := by omega
              go_wp2_with (fail)
              go_meet
              case rel => exact ⟨by rw [← htb]; simp [h1, h2], rfl⟩
            · have h2I : ¬ (m : Int) < (en : Int) := by omega
              go_wp2_with (fail)
              go_meet
              case rel => exact ⟨by rw [← htb]; simp [h1, h2], rfl⟩
          · have h1I : ¬ (i : Int) < (m : Int) := by omega
            go_wp2_with (fail)
            go_meet
            case rel => exact ⟨by rw [← htb]; simp [h1], rfl⟩
        case rest =>
        obtain ⟨rfl, hw0⟩ := hcut
        have hw1 := hw0.symm
        subst hw1
        go_upto_if 185 with (fail)
        go_cut [] (fun wx => Aside (Sl wx 2 (.slice (some ⟨g, 0, none⟩) N c) N (plC (X ++ ((L1 ++ R1) ++ ((L2 ++ R2) ++ Y))))) ∧ Aside (KeepK (fun i => i < w.heap.size ∧ i ≠ g) w wx))
        case first =>
          as_aux_lemma =>
          have hD0 : Sl wr 2 (.slice (some ⟨g, 0, none⟩) N c) N (plC (X ++ ((L1 ++ L2 ++ (R1 ++ R2)) ++ Y))) := by
            have h1 := HR0.out
            rw [HST.out.2.1, HST.out.2.2.1] at h1
            exact h1
          have hlenN : (X ++ ((L1 ++ L2 ++ (R1 ++ R2)) ++ Y)).length = N := by
            have h1 := HNN.out.1
            rw [HST.out.2.1, HST.out.2.2.1] at h1
            exact h1
          cases tb with
          | true =>
            have h12 := of_decide_eq_true htb
            have hrot := rotate_anyPl g c i m en N (X ++ L1) L2 R1 (R2 ++ Y) wr (by simpa using hD0) (by simpa using hlenN) HNN.out.2
              (by have := HST.out.1; have := HST.out.2.2.2.1; have := HAB.out.1; simp; omega) (by have := HST.out; have := HAB.out; simp; omega) (by have := HST.out; have := HAB.out; simp; omega) (by have := HST.out; have := HAB.out; omega) (by have := HST.out; omega)
            have HC := Lib.hid hrot
            clear hD0 hlenN hrot h12
            go_wp2_with (fail)
            with_reducible refine HC.out.mono ?_
            rintro e w1 ⟨rfl, h2, h3⟩
            have H := Lib.hid (And.intro h2 (HK0.out.trans (h3.mono fun i hi => ⟨Nat.lt_of_lt_of_le hi.1 HK0.out.size, hi.2⟩)))
            clear h2 h3
            go_wp2_with (fail)
            go_meet
            case rel => exact ⟨by have h := H.out.1; show Sl _ _ _ _ _; simpa using h, H.out.2⟩
          | false =>
            have h12 := of_decide_eq_false htb
            have hemp : L2 = [] ∨ R1 = [] := by
              by_cases h1 : i < m
              · right
                have h2 : ¬ m < en := fun h => h12 ⟨h1, h⟩
                exact List.eq_nil_of_length_eq_zero (by have := HST.out; omega)
              · left
                exact List.eq_nil_of_length_eq_zero (by have := HST.out; have := HAB.out; omega)
            have HD := Lib.hid (show Sl wr 2 (.slice (some ⟨g, 0, none⟩) N c) N (plC (X ++ ((L1 ++ R1) ++ ((L2 ++ R2) ++ Y)))) from by
              rcases hemp with h | h
              · rw [h] at hD0 ⊢; simpa using hD0
              · rw [h] at hD0 ⊢; simpa using hD0)
            clear hD0 hlenN h12 hemp
            go_wp2_with (fail)
            go_meet
            case rel => exact ⟨HD.out, HK0.out⟩
        case rest =>
        obtain ⟨hD1, hK1⟩ := hcut
        obtain ⟨w2, rfl⟩ : ∃ w2, w2 = wc := ⟨_, rfl⟩
        obtain ⟨tc, htc⟩ : ∃ tc, decide (a < i ∧ i < mid) = tc := ⟨_, rfl⟩
        go_upto_region 41 with (fail)
        go_cut [199] (fun v wx => v = .bool tc ∧ wx = w2)
        case first =>
          as_aux_lemma =>
          by_cases h1 : a < i
          · have h1I : (a : Int) < (i : Int) := by omega
            by_cases h2 : i < mid
            · have h2I : (i : Int) < (mid : Int) := by omega
              go_wp2_with (fail)
              go_meet
              case rel => exact ⟨by rw [← htc]; simp [h1, h2], rfl⟩
            · have h2I : ¬ (i : Int) < (mid : Int) := by omega
              go_wp2_with (fail)
              go_meet
              case rel => exact ⟨by rw [← htc]; simp [h1, h2], rfl⟩
          · have h1I : ¬ (a : Int) < (i : Int) := by omega
            go_wp2_with (fail)
            go_meet
            case rel => exact ⟨by rw [← htc]; simp [h1], rfl⟩
        case rest =>
        obtain ⟨rfl, hw0⟩ := hcut
        have hw1 := hw0.symm
        subst hw1
        go_upto_if 199 with (fail)
        go_cut [] (fun wx => ∃ M1, Aside (SrtK Pl.L cmpL M1 ∧ StS Pl.L M1 (L1 ++ R1)) ∧ Aside (Sl wx 2 (.slice (some ⟨g, 0, none⟩) N c) N (plC (X ++ (M1 ++ ((L2 ++ R2) ++ Y))))) ∧ Aside (KeepK (fun i => i < w.heap.size ∧ i ≠ g) w wx))
        case first =>
          as_aux_lemma =>
          cases tc with
          | true =>
            have h12 := of_decide_eq_true htc
            have hP2 : PlOk w2 g (L1 ++ R1) := (HS.out.2.1.keep hK1.out).mem fun q hq => by
              rw [HST.out.2.1, HST.out.2.2.1]
              rcases List.mem_append.1 hq with h | h <;> simp [h]
            have hcall := HIH.out a i mid X L1 R1 ((L2 ++ R2) ++ Y) w2 (by have := HST.out; have := HAB.out; omega) hD1.out hP2
              (by have h1 := HNN.out.1; rw [HST.out.2.1, HST.out.2.2.1] at h1; rw [← h1]; simp; omega) HAB.out.1 (by have := HST.out; omega) (by have := HST.out; omega) (by have := HST.out; omega) (by have := HST.out; omega) HSS.out.1.1 HSS.out.2.1
            have HC := Lib.hid hcall
            clear hP2 hcall h12
            go_wp2_with (fail)
            with_reducible refine HC.out.mono ?_
            rintro e w3 ⟨rfl, M1, g1, g2, g3, g4⟩
            have H := Lib.hid (And.intro g1 (And.intro g2 (And.intro g3 (hK1.out.trans (g4.mono fun i hi => ⟨Nat.lt_of_lt_of_le hi.1 hK1.out.size, hi.2⟩)))))
            clear g1 g2 g3 g4
            go_wp2_with (fail)
            go_meet
            case rel => exact ⟨M1, ⟨H.out.1, H.out.2.1⟩, H.out.2.2.1, H.out.2.2.2⟩
          | false =>
            have h12 := of_decide_eq_false htc
            have hs1 : SrtK Pl.L cmpL (L1 ++ R1) := by
              by_cases h1 : a < i
              · have h2 : ¬ i < mid := fun h => h12 ⟨h1, h⟩
                have : R1 = [] := List.eq_nil_of_length_eq_zero (by have := HST.out; omega)
                rw [this, List.append_nil]; exact HSS.out.1.1
              · have : L1 = [] := List.eq_nil_of_length_eq_zero (by have := HST.out; omega)
                rw [this, List.nil_append]; exact HSS.out.2.1
            have HD := Lib.hid hs1
            clear h12 hs1
            go_wp2_with (fail)
            go_meet
            case rel => exact ⟨L1 ++ R1, ⟨HD.out, StS.refl _⟩, hD1.out, hK1.out⟩
        case rest =>
        obtain ⟨M1, hM1, hD3, hK3⟩ := hcut
        obtain ⟨w4, rfl⟩ : ∃ w4, w4 = wc := ⟨_, rfl⟩
        have hM1l := hM1.out.2.len
        obtain ⟨td, htd⟩ : ∃ td, decide (mid < en ∧ en < b) = td := ⟨_, rfl⟩
        go_upto_region 43 with (fail)
        go_cut [213] (fun v wx => v = .bool td ∧ wx = w4)
        case first =>
          as_aux_lemma =>
          by_cases h1 : mid < en
          · have h1I : (mid : Int) < (en : Int) := by omega
            by_cases h2 : en < b
            · have h2I : (en : Int) < (b : Int) := by omega
              go_wp2_with (fail)
              go_meet
              case rel => exact ⟨by rw [← htd]; simp [h1, h2], rfl⟩
            · have h2I : ¬ (en : Int) < (b : Int) := by omega
              go_wp2_with (fail)
              go_meet
              case rel => exact ⟨by rw [← htd]; simp [h1, h2], rfl⟩
          · have h1I : ¬ (mid : Int) < (en : Int) := by omega
            go_wp2_with (fail)
            go_meet
            case rel => exact ⟨by rw [← htd]; simp [h1], rfl⟩
        case rest =>
        obtain ⟨rfl, hw0⟩ := hcut
        have hw1 := hw0.symm
        subst hw1
        cases td with
        | true =>
          have h12 := of_decide_eq_true htd
          have hP2 : PlOk w4 g (L2 ++ R2) := (HS.out.2.1.keep hK3.out).mem fun q hq => by
            rw [HST.out.2.1, HST.out.2.2.1]
            rcases List.mem_append.1 hq with h | h <;> simp [h]
          have hcall := HIH.out mid en b (X ++ M1) L2 R2 Y w4 (by have := HST.out; have := HAB.out; omega) (by have h := hD3.out; simpa using h) hP2
            (by have h1 := HNN.out.1; rw [HST.out.2.1, HST.out.2.2.1] at h1; rw [← h1]; simp at hM1l ⊢; omega) (by have := HST.out; have := HAB.out; simp at hM1l ⊢; omega) (by have := HST.out; have := HAB.out; omega) (by have := HST.out; have := HAB.out; omega) (by have := HST.out; have := HAB.out; omega) (by have := HST.out; have := HAB.out; omega) HSS.out.1.2.1 HSS.out.2.2.1
          have HC := Lib.hid hcall
          clear hP2 hcall h12 hM1l
          go_wp2_with (fail)
          with_reducible refine HC.out.mono ?_
          rintro e w5 ⟨rfl, M2, g1, g2, g3, g4⟩
          have H := Lib.hid (And.intro g1 (And.intro g2 (And.intro g3 (hK3.out.trans (g4.mono fun i hi => ⟨Nat.lt_of_lt_of_le hi.1 hK3.out.size, hi.2⟩)))))
          clear g1 g2 g3 g4
          go_wp2_with (fail)
          refine bodyPost_end (results_none rfl _ _ _) rfl ?_
          obtain ⟨g1, g2, g3, g4⟩ := H.out
          obtain ⟨k1, k2⟩ := HJ.out M1 M2 hM1.out.1 g1 hM1.out.2 g2
          exact ⟨rfl, M1 ++ M2, k1, k2, by simpa using g3, g4⟩
        | false =>
          have h12 := of_decide_eq_false htd
          have hs1 : SrtK Pl.L cmpL (L2 ++ R2) := by
            by_cases h1 : mid < en
            · have h2 : ¬ en < b := fun h => h12 ⟨h1, h⟩
              have : R2 = [] := List.eq_nil_of_length_eq_zero (by have := HST.out; have := HAB.out; omega)
              rw [this, List.append_nil]; exact HSS.out.1.2.1
            · have : L2 = [] := List.eq_nil_of_length_eq_zero (by have := HST.out; have := HAB.out; omega)
              rw [this, List.nil_append]; exact HSS.out.2.2.1
          obtain ⟨k1, k2⟩ := HJ.out M1 (L2 ++ R2) hM1.out.1 hs1 hM1.out.2 (StS.refl _)
          have HD := Lib.hid (And.intro k1 k2)
          clear h12 hs1 k1 k2 hM1l
          go_wp2_with (fail)
          refine bodyPost_end (results_none rfl _ _ _) rfl ?_
          have hh := hD3.out
          exact ⟨rfl, M1 ++ (L2 ++ R2), HD.out.1, HD.out.2, by simpa using hh, hK3.out⟩

/-- The merge, whatever there is. -/
theorem sym_anyPl (g c N : Nat) (hn : N ≤ 1000000) : ∀ n, SymOkPl g c N n
  | 0 => fun a m b X L R Y w h => absurd h (Nat.not_lt_zero _)
  | n + 1 => fun a m b X L R Y w h hS hP hN ha hm hb hL1 hR1 hL hR => by
    by_cases h1 : L.length = 1
    · obtain ⟨x, rfl⟩ := List.length_eq_one_iff.1 h1
      exact sym_frontPl g c a m b N X R Y x w hS hP hN hn ha hm hb hR
    · by_cases h2 : R.length = 1
      · obtain ⟨y, rfl⟩ := List.length_eq_one_iff.1 h2
        exact sym_backPl g c a m b N X L Y y w hS hP hN hn ha hm hb (by omega) hL
      · have ih := sym_anyPl g c N hn n
        exact sym_midPl g c a m b N X L R Y w hS hP hN hn ha hm hb (by omega) (by omega) hL hR fun a' m' b' X' L' R' Y' w' h' => ih a' m' b' X' L' R' Y' w' (by omega)
end Go.Proofs.YthnngndnpigjbaaGreat

namespace Go.Proofs.YthnngndnpigjbaaGreat
open Go.RowKit Go.Lib

/-- A row of full blocks, each in order. -/
def FullPl (bs : Nat) (Cs : List (List Pl)) : Prop := ∀ C ∈ Cs, C.length = bs ∧ SrtK Pl.L cmpL C
theorem FullPl.snoc {bs : Nat} {Cs : List (List Pl)} {M : List Pl} (h : FullPl bs Cs) (hl : M.length = bs) (hs : SrtK Pl.L cmpL M) : FullPl bs (Cs ++ [M]) := fun C hC => by
  rcases List.mem_append.1 hC with h1 | h1
  · exact h C h1
  · rw [List.mem_singleton.1 h1]; exact ⟨hl, hs⟩
theorem flat_snocPl (Cs : List (List Pl)) (M : List Pl) : (Cs ++ [M]).flatten = Cs.flatten ++ M := by simp
theorem sts_midPl {X M M' Y P : List Pl} (h : StS Pl.L M' M) (g : StS Pl.L (X ++ (M ++ Y)) P) : StS Pl.L (X ++ (M' ++ Y)) P :=
  ((StS.refl X).append (h.append (StS.refl Y))).trans g
theorem PlOk.sts {w w' : World} {g : Nat} {D P : List Pl} (h : PlOk w g P) (hs : StS Pl.L D P) (hk : KeepK (fun i => i < w.heap.size ∧ i ≠ g) w w') : PlOk w' g D := (h.keep hk).mem fun _ hq => hs.mem hq
theorem sym_goPl (g c N a m b : Nat) (X L R Y : List Pl) (w : World) (hn : N ≤ 1000000) (hS : Sl w 2 (.slice (some ⟨g, 0, none⟩) N c) N (plC (X ++ ((L ++ R) ++ Y)))) (hP : PlOk w g (L ++ R))
    (hN : (X ++ ((L ++ R) ++ Y)).length = N) (ha : a = X.length) (hm : m = a + L.length) (hb : b = m + R.length) (hL1 : 1 ≤ L.length) (hR1 : 1 ≤ R.length) (hL : SrtK Pl.L cmpL L) (hR : SrtK Pl.L cmpL R) :
    Calls Tryz.prog 101 #[.slice (some ⟨g, 0, none⟩) N c, .int .i64 (a : Int), .int .i64 (m : Int), .int .i64 (b : Int), .func (.func 72) #[] #[]] w (MgPostPl g c N X (L ++ R) Y w) :=
  sym_anyPl g c N hn (L.length + R.length + 1) a m b X L R Y w (Nat.lt_succ_self _) hS hP hN ha hm hb hL1 hR1 hL hR
theorem keep_onPl {g : Nat} {w w1 w2 : World} (h : KeepK (fun i => i < w.heap.size ∧ i ≠ g) w w1) (k : KeepK (fun i => i < w1.heap.size ∧ i ≠ g) w1 w2) : KeepK (fun i => i < w.heap.size ∧ i ≠ g) w w2 :=
  h.trans (k.mono fun _ hi => ⟨Nat.lt_of_lt_of_le hi.1 h.size, hi.2⟩)
theorem pair_nextPl {bs : Nat} {Es : List (List Pl)} {L : List Pl} (h : FullPl bs Es) (hl : L.length ≤ bs) (hs : SrtK Pl.L cmpL L) (hb : 1 ≤ bs) (h2 : 2 * bs ≤ (Es.flatten ++ L).length) :
    ∃ (A1 A2 : List Pl) (Es' : List (List Pl)) (L' : List Pl), Es.flatten ++ L = (A1 ++ A2) ++ (Es'.flatten ++ L') ∧ A1.length = bs ∧ A2.length = bs ∧ SrtK Pl.L cmpL A1 ∧ SrtK Pl.L cmpL A2 ∧ FullPl bs Es' ∧ L'.length ≤ bs ∧ SrtK Pl.L cmpL L' := by
  match Es, h, h2 with
  | [], _, h2 => simp at h2; omega
  | [F], h, h2 =>
    have hF := h F (by simp)
    refine ⟨F, L, [], [], by simp, hF.1, ?_, hF.2, hs, fun C hC => absurd hC List.not_mem_nil, by simp, List.Pairwise.nil⟩
    simp at h2
    have := hF.1
    omega
  | F :: G :: Es, h, _ =>
    have hF := h F (by simp)
    have hG := h G (by simp)
    exact ⟨F, G, Es, L, by simp, hF.1, hG.1, hF.2, hG.2, fun C hC => h C (by simp [hC]), hl, hs⟩
theorem small_srtPl {bs : Nat} {Es : List (List Pl)} {L : List Pl} (h : FullPl bs Es) (hs : SrtK Pl.L cmpL L) (hb : 1 ≤ bs) (h2 : (Es.flatten ++ L).length ≤ bs) : SrtK Pl.L cmpL (Es.flatten ++ L) := by
  match Es, h, h2 with
  | [], _, _ => simpa using hs
  | [F], h, h2 =>
    have hF := h F (by simp)
    simp at h2
    have h3 := hF.1
    have : L = [] := List.eq_nil_of_length_eq_zero (by omega)
    rw [this]
    simpa using hF.2
  | F :: G :: Es, h, h2 =>
    have hF := (h F (by simp)).1
    have hG := (h G (by simp)).1
    simp at h2
    omega
theorem pair_lastPl {bs : Nat} {Es : List (List Pl)} {L : List Pl} (h : FullPl bs Es) (hl : L.length ≤ bs) (h2 : bs < (Es.flatten ++ L).length) (h3 : (Es.flatten ++ L).length < 2 * bs) :
    ∃ F, Es = [F] ∧ F.length = bs ∧ SrtK Pl.L cmpL F ∧ 1 ≤ L.length := by
  match Es, h, h2, h3 with
  | [], _, h2, _ => simp at h2; omega
  | [F], h, h2, _ =>
    have hF := h F (by simp)
    simp at h2
    exact ⟨F, rfl, hF.1, hF.2, by have := hF.1; omega⟩
  | F :: G :: Es, h, _, h3 =>
    have hF := (h F (by simp)).1
    have hG := (h G (by simp)).1
    simp at h3
    omega

set_option maxRecDepth 100000 in
set_option maxHeartbeats 8000000 in
theorem stable_allPl : StableOk 1000 := by
  intro g c P w hS hP hn
  obtain ⟨N, hN⟩ : ∃ N, P.length = N := ⟨_, rfl⟩
  rw [hN] at hS hn
  unfold StabPost
  rw [hN]
  have hNI : (N : Int) ≤ 1000 := by omega
  have HS := Lib.hid (And.intro hS (And.intro hP (And.intro hN hn)))
  clear hS hP hN hn
  go_enter Tryz.func86, Tryz.ntmps86
  go_wp2_with (fail)
  go_loopg [7, 8] N (fun gg v7 v8 wr => ∃ (a b : Nat) (Cs : List (List Pl)), v7 = .int .i64 (a : Int) ∧ v8 = .int .i64 (b : Int) ∧ Aside (gg + a = N ∧ b = a + 20 ∧ a = Cs.flatten.length) ∧ Aside (FullPl 20 Cs) ∧ Aside (StS Pl.L (Cs.flatten ++ P.drop a) P) ∧ Aside (Sl wr 2 (.slice (some ⟨g, 0, none⟩) N c) N (plC (Cs.flatten ++ P.drop a))) ∧ Aside (KeepK (fun i => i < w.heap.size ∧ i ≠ g) w wr))
  case atStart => exact ⟨0, 20, [], rfl, rfl, ⟨rfl, rfl, rfl⟩, (show Aside _ from fun C hC => absurd hC List.not_mem_nil), StS.refl _, HS.out.1, KeepK.refl _ _⟩
  case round =>
    obtain ⟨a, b, Cs, rfl, rfl, hab, hF, hst, hRow, hK⟩ := hrel
    have hPl : PlOk wr g (Cs.flatten ++ P.drop a) := HS.out.2.1.sts hst.out hK.out
    have haI : (a : Int) ≤ 1000 := by have := hab.out; omega
    have hbI : (b : Int) ≤ 1020 := by have := hab.out; omega
    have hNa : (Cs.flatten ++ P.drop a).length = N := by have := hab.out; have := HS.out.2.2.1; rw [List.length_append, List.length_drop]; omega
    by_cases hlt : b ≤ N
    · have hltI : (b : Int) ≤ (N : Int) := by omega
      have e1 : Cs.flatten ++ ((P.drop a).take 20 ++ (P.drop a).drop 20) = Cs.flatten ++ P.drop a := by rw [List.take_append_drop]
      have h1 := insSort_any g c a b Cs.flatten ((P.drop a).take 20) ((P.drop a).drop 20) wr (by rw [e1, hNa]; exact hRow.out) (by rw [e1]; exact hPl) (by rw [e1, hNa]; omega) hab.out.2.2 (by have := hab.out; have := HS.out.2.2.1; rw [List.length_take, List.length_drop]; omega)
      rw [e1, hNa] at h1
      have hlt20 : ((P.drop a).take 20).length = 20 := by have := hab.out; have := HS.out.2.2.1; rw [List.length_take, List.length_drop]; omega
      have HC := Lib.hid (And.intro h1 (And.intro hlt20 (And.intro e1 (And.intro hlt hNa))))
      clear h1 e1 hlt20 hPl hlt hNa
      go_wp2_with (fail)
      refine HC.out.1.mono ?_
      rintro e w1 ⟨rfl, M', hp1, hp2, hp3, hp4⟩
      have hlM : M'.length = 20 := by rw [hp2.len]; exact HC.out.2.1
      have eN : (Cs.flatten ++ (M' ++ (P.drop a).drop 20)).length = N := by
        have h1 := HC.out.2.2.2.2
        rw [← HC.out.2.2.1] at h1
        rw [← h1]
        simp only [List.length_append, hlM, HC.out.2.1]
      rw [eN] at hp3
      have H := Lib.hid (And.intro hp1 (And.intro hp2 (And.intro hp3 (And.intro (keep_onPl hK.out hp4) hlM))))
      clear hp1 hp2 hp3 hp4 hlM eN
      go_wp2_with (fail)
      go_roundg (N - b)
      case measure => have := hab.out; have := HC.out.2.2.2.1; omega
      case rel =>
        obtain ⟨hp1, hp2, hp3, hp4, hlM⟩ := H.out
        have e2 : (Cs ++ [M']).flatten ++ P.drop b = Cs.flatten ++ (M' ++ (P.drop a).drop 20) := by
          rw [flat_snocPl, List.append_assoc, List.drop_drop, hab.out.2.1]
        refine ⟨b, b + 20, Cs ++ [M'], rfl, by go_num, ?_, hF.out.snoc hlM hp1, ?_, ?_, hp4⟩
        · show _ ∧ _ ∧ _
          have := hab.out; have := HC.out.2.2.2.1
          rw [flat_snocPl, List.length_append, hlM]
          exact ⟨by omega, rfl, by omega⟩
        · show StS _ _ _
          rw [e2]
          refine sts_midPl hp2 ?_
          rw [HC.out.2.2.1]; exact hst.out
        · show Sl _ _ _ _ _
          rw [e2]; exact hp3
    · have hltI : ¬ (b : Int) ≤ (N : Int) := by omega
      have h1 := insSort_any g c a N Cs.flatten (P.drop a) [] wr (by rw [List.append_nil, hNa]; exact hRow.out) (by rw [List.append_nil]; exact hPl) (by rw [List.append_nil, hNa]; omega) hab.out.2.2 (by have := hab.out; have := HS.out.2.2.1; rw [List.length_drop]; omega)
      rw [List.append_nil, hNa] at h1
      have HC := Lib.hid (And.intro h1 (And.intro hlt hNa))
      clear h1 hPl hlt hNa
      go_wp2_with (fail)
      refine HC.out.1.mono ?_
      rintro e w1 ⟨rfl, M', hp1, hp2, hp3, hp4⟩
      have hlM := hp2.len
      have eN : (Cs.flatten ++ (M' ++ [])).length = N := by
        have h1 := HC.out.2.2
        rw [← h1, List.append_nil]
        simp only [List.length_append, hlM]
      rw [eN] at hp3
      rw [List.append_nil] at hp3
      have hstM : StS Pl.L (Cs.flatten ++ M') P := by
        have h2 := sts_midPl (X := Cs.flatten) (Y := []) (P := P) hp2 (by rw [List.append_nil]; exact hst.out)
        rwa [List.append_nil] at h2
      have hlM20 : M'.length ≤ 20 := by rw [hlM, List.length_drop]; have := hab.out; have := HC.out.2.1; have := HS.out.2.2.1; omega
      have H := Lib.hid (And.intro hp1 (And.intro hstM (And.intro hp3 (And.intro (keep_onPl hK.out hp4) (And.intro hlM20 hF.out)))))
      clear hp1 hp2 hp3 hp4 hlM eN hstM hlM20 hK hRow hst hab hF
      go_wp2_with (fail)
      go_loopg [6, 7, 8, 9] (N - 20) (fun gg v6 _ _ _ wr => ∃ (bs : Nat) (Fs : List (List Pl)) (L : List Pl), v6 = .int .i64 (bs : Int) ∧ Aside (gg = N - bs ∧ 1 ≤ bs ∧ bs ≤ 2000) ∧ Aside (FullPl bs Fs ∧ L.length ≤ bs ∧ SrtK Pl.L cmpL L) ∧ Aside (StS Pl.L (Fs.flatten ++ L) P) ∧ Aside (Sl wr 2 (.slice (some ⟨g, 0, none⟩) N c) N (plC (Fs.flatten ++ L))) ∧ Aside (KeepK (fun i => i < w.heap.size ∧ i ≠ g) w wr))
      case atStart => exact ⟨20, Cs, M', rfl, (by show _ ∧ _ ∧ _; exact ⟨rfl, by omega, by omega⟩), ⟨H.out.2.2.2.2.2, H.out.2.2.2.2.1, H.out.1⟩, H.out.2.1, H.out.2.2.1, H.out.2.2.2.1⟩
      case round =>
        obtain ⟨bs, Fs, L, rfl, hbs, hF, hst, hRow, hK⟩ := hrel
        have hbI : (bs : Int) ≤ 2000 := by have := hbs.out; omega
        have hlen : (Fs.flatten ++ L).length = N := by rw [hst.out.len]; exact HS.out.2.2.1
        by_cases hlt : bs < N
        · have hltI : (bs : Int) < (N : Int) := by omega
          have HL := Lib.hid (And.intro hlen hlt)
          clear hlen hlt
          go_wp2_with (fail)
          go_loopg [7, 8] (N - 0) (fun gg v7 v8 wr => ∃ (a b : Nat) (Ds Es : List (List Pl)) (L : List Pl), v7 = .int .i64 (a : Int) ∧ v8 = .int .i64 (b : Int) ∧ Aside (gg = N - a ∧ b = a + 2 * bs ∧ a = Ds.flatten.length ∧ a ≤ N) ∧ Aside (FullPl (2 * bs) Ds ∧ FullPl bs Es ∧ L.length ≤ bs ∧ SrtK Pl.L cmpL L) ∧ Aside (StS Pl.L (Ds.flatten ++ (Es.flatten ++ L)) P) ∧ Aside (Sl wr 2 (.slice (some ⟨g, 0, none⟩) N c) N (plC (Ds.flatten ++ (Es.flatten ++ L)))) ∧ Aside (KeepK (fun i => i < w.heap.size ∧ i ≠ g) w wr))
          case atStart => exact ⟨0, 2 * bs, [], Fs, L, rfl, by go_num, ⟨rfl, by omega, rfl, Nat.zero_le _⟩, ⟨fun C hC => absurd hC List.not_mem_nil, hF.out⟩, hst.out, hRow.out, hK.out⟩
          case round =>
            clear hF hst hRow hK
            obtain ⟨a, b, Ds, Es, L2, rfl, rfl, hab, hF, hst, hRow, hK⟩ := hrel
            have hPl : PlOk wr g (Ds.flatten ++ (Es.flatten ++ L2)) := HS.out.2.1.sts hst.out hK.out
            have haI : (a : Int) ≤ 1000 := by have := hab.out; omega
            have hbI2 : (b : Int) ≤ 5000 := by have := hab.out; have := hbs.out; omega
            have hlen : (Ds.flatten ++ (Es.flatten ++ L2)).length = N := by rw [hst.out.len]; exact HS.out.2.2.1
            have hlen2 : a + (Es.flatten ++ L2).length = N := by rw [List.length_append, ← hab.out.2.2.1] at hlen; exact hlen
            by_cases hle : b ≤ N
            · have hleI : (b : Int) ≤ (N : Int) := by omega
              obtain ⟨A1, A2, Es', L', eA, l1, l2, s1, s2, hF', l3, s3⟩ := pair_nextPl hF.out.2.1 hF.out.2.2.1 hF.out.2.2.2 hbs.out.2.1 (by have := hab.out; omega)
              rw [eA] at hlen hPl
              have hRow' := hRow.out
              rw [eA] at hRow'
              have hst' := hst.out
              rw [eA] at hst'
              have h1 := sym_goPl g c N a (a + bs) b Ds.flatten A1 A2 (Es'.flatten ++ L') wr (by have := HS.out.2.2.2; omega) hRow' (hPl.mem fun q hq => List.mem_append_right _ (List.mem_append_left _ hq)) hlen hab.out.2.2.1 (by omega) (by have := hab.out; omega) (by have := hbs.out; omega) (by have := hbs.out; omega) s1 s2
              rw [Int.natCast_add] at h1
              have HC := Lib.hid (And.intro h1 (And.intro l1 (And.intro l2 (And.intro hF' (And.intro l3 (And.intro s3 (And.intro hst' hle)))))))
              clear h1 hst' hRow' hPl hlen hlen2 eA l1 l2 s1 s2 hF' l3 s3 hle
              go_wp2_with (fail)
              refine HC.out.1.mono ?_
              rintro e w2 ⟨rfl, M2, hp1, hp2, hp3, hp4⟩
              have H2 := Lib.hid (And.intro hp1 (And.intro hp2 (And.intro hp3 (keep_onPl hK.out hp4))))
              clear hp1 hp2 hp3 hp4
              go_wp2_with (fail)
              go_roundg (N - b)
              case measure => have := hab.out; have := HC.out.2.2.2.2.2.2.2; have := hbs.out; omega
              case rel =>
                obtain ⟨hp1, hp2, hp3, hp4⟩ := H2.out
                obtain ⟨_, l1, l2, hF', l3, s3, hst', hle⟩ := HC.out
                have hlM : M2.length = 2 * bs := by rw [hp2.len, List.length_append]; omega
                have e2 : (Ds ++ [M2]).flatten ++ (Es'.flatten ++ L') = Ds.flatten ++ (M2 ++ (Es'.flatten ++ L')) := by rw [flat_snocPl, List.append_assoc]
                refine ⟨b, b + 2 * bs, Ds ++ [M2], Es', L', rfl, by go_num, ?_, ⟨hF.out.1.snoc hlM hp1, hF', l3, s3⟩, ?_, ?_, hp4⟩
                · show _ ∧ _ ∧ _ ∧ _
                  have := hab.out
                  rw [flat_snocPl, List.length_append, hlM]
                  exact ⟨rfl, rfl, by omega, hle⟩
                · show StS _ _ _
                  rw [e2]; exact sts_midPl hp2 hst'
                · show Sl _ _ _ _ _
                  rw [e2]; exact hp3
            · have hleI : ¬ (b : Int) ≤ (N : Int) := by omega
              by_cases hlm : a + bs < N
              · have hlmI : (a : Int) + (bs : Int) < (N : Int) := by omega
                obtain ⟨F, rfl, l1, s1, l2⟩ := pair_lastPl hF.out.2.1 hF.out.2.2.1 (by omega) (by have := hab.out; omega)
                have e1 : ([F] : List (List Pl)).flatten ++ L2 = (F ++ L2) ++ [] := by simp
                rw [e1] at hlen hPl hlen2
                have hRow' := hRow.out
                rw [e1] at hRow'
                have hst' := hst.out
                rw [e1] at hst'
                have h1 := sym_goPl g c N a (a + bs) N Ds.flatten F L2 [] wr (by have := HS.out.2.2.2; omega) hRow' (hPl.mem fun q hq => List.mem_append_right _ (List.mem_append_left _ hq)) hlen hab.out.2.2.1 (by omega) (by simp at hlen2; omega) (by have := hbs.out; omega) l2 s1 hF.out.2.2.2
                rw [Int.natCast_add] at h1
                have HC := Lib.hid (And.intro h1 (And.intro l1 hst'))
                clear h1 hst' hRow' hPl hlen hlen2 e1 l1 l2 s1 hle hlm
                go_wp2_with (fail)
                refine HC.out.1.mono ?_
                rintro e w2 ⟨rfl, M2, hp1, hp2, hp3, hp4⟩
                have H2 := Lib.hid (And.intro hp1 (And.intro hp2 (And.intro hp3 (keep_onPl hK.out hp4))))
                clear hp1 hp2 hp3 hp4
                go_wp2_with (fail)
                go_roundg (N - 2 * bs)
                case measure => have := hbs.out; have := HL.out; omega
                case rel =>
                  obtain ⟨hp1, hp2, hp3, hp4⟩ := H2.out
                  obtain ⟨_, l1, hst'⟩ := HC.out
                  refine ⟨2 * bs, Ds, M2, by congr 1; omega, (by show _ ∧ _ ∧ _; have := hbs.out; have := HL.out; have := HS.out.2.2.2; exact ⟨rfl, by omega, by omega⟩), ⟨hF.out.1, ?_, hp1⟩, ?_, ?_, hp4⟩
                  · rw [hp2.len, List.length_append]; have := hF.out.2.2.1; omega
                  · have h := sts_midPl hp2 hst'
                    rw [List.append_nil] at h
                    exact h
                  · rw [List.append_nil] at hp3; exact hp3
              · have hlmI : ¬ (a : Int) + (bs : Int) < (N : Int) := by omega
                have hs := small_srtPl hF.out.2.1 hF.out.2.2.2 hbs.out.2.1 (by omega)
                have HC := Lib.hid (And.intro hs (show (Es.flatten ++ L2).length ≤ 2 * bs by omega))
                clear hs hPl hlen hlen2 hle hlm
                go_wp2_with (fail)
                go_roundg (N - 2 * bs)
                case measure => have := hbs.out; have := HL.out; omega
                case rel =>
                  refine ⟨2 * bs, Ds, Es.flatten ++ L2, by congr 1; omega, (by show _ ∧ _ ∧ _; have := hbs.out; have := HL.out; have := HS.out.2.2.2; exact ⟨rfl, by omega, by omega⟩), ⟨hF.out.1, HC.out.2, HC.out.1⟩, hst.out, hRow.out, hK.out⟩
        · have hltI : ¬ (bs : Int) < (N : Int) := by omega
          have hs := small_srtPl hF.out.1 hF.out.2.2 hbs.out.2.1 (by omega)
          have HC := Lib.hid hs
          clear hs hlen hlt
          go_wp2_with (fail)
          refine bodyPost_end (results_none rfl _ _ _) rfl ?_
          exact ⟨rfl, Fs.flatten ++ L, HC.out, hst.out, hRow.out, hK.out⟩
end Go.Proofs.YthnngndnpigjbaaGreat
