/- The walk of slices.symMergeCmpFunc at places. -/
import Derived.Test.YtjhhhkhcnohmiaaSymB
import Derived.Deep.Cut
import Derived.Deep.CutRange
import Derived.Deep.DeepCutAuto
namespace Go.Proofs.Ytjhhhkhcnohmiaa
open Go.RowKit Go.Lib

/-- A merge of fewer than n places does what it must. -/
def SymOk (g c N n : Nat) : Prop := ∀ (a m b : Nat) (X L R Y : List Pl) (w : World), L.length + R.length < n → Sl w 2 (.slice (some ⟨g, 0, none⟩) N c) N (plC (X ++ ((L ++ R) ++ Y))) → PlOk w g (L ++ R) →
  (X ++ ((L ++ R) ++ Y)).length = N → a = X.length → m = a + L.length → b = m + R.length → 1 ≤ L.length → 1 ≤ R.length → SrtK Pl.L cmpL L → SrtK Pl.L cmpL R →
  Calls Try.prog 92 #[.slice (some ⟨g, 0, none⟩) N c, .int .i64 (a : Int), .int .i64 (m : Int), .int .i64 (b : Int), .func (.func 69) #[] #[]] w (MgPost g c N X (L ++ R) Y w)

set_option maxRecDepth 100000 in
set_option maxHeartbeats 16000000 in
theorem sym_mid (g c a m b N : Nat) (X L R Y : List Pl) (w : World) (hS : Sl w 2 (.slice (some ⟨g, 0, none⟩) N c) N (plC (X ++ ((L ++ R) ++ Y)))) (hP : PlOk w g (L ++ R))
    (hN : (X ++ ((L ++ R) ++ Y)).length = N) (hn : N ≤ 1000000) (ha : a = X.length) (hm : m = a + L.length) (hb : b = m + R.length) (hL2 : 2 ≤ L.length) (hR2 : 2 ≤ R.length) (hL : SrtK Pl.L cmpL L) (hR : SrtK Pl.L cmpL R)
    (IH : SymOk g c N (L.length + R.length)) :
    Calls Try.prog 92 #[.slice (some ⟨g, 0, none⟩) N c, .int .i64 (a : Int), .int .i64 (m : Int), .int .i64 (b : Int), .func (.func 69) #[] #[]] w (MgPost g c N X (L ++ R) Y w) := by
  have hN3 : N = X.length + (L.length + R.length + Y.length) := by rw [← hN]; simp; omega
  have hNI : (N : Int) ≤ 1000000 := by omega
  have haI : (a : Int) ≤ 1000000 := by omega
  have hmI : (m : Int) ≤ 1000000 := by omega
  have hbI : (b : Int) ≤ 1000000 := by omega
  have ht0 : ((m : Int) - (a : Int) == 1) = false := by simp; omega
  have ht1 : ((b : Int) - (m : Int) == 1) = false := by simp; omega
  obtain ⟨mid, hmid⟩ : ∃ mid, (a + b) / 2 = mid := ⟨_, rfl⟩
  obtain ⟨nn, hnn⟩ : ∃ nn, mid + m = nn := ⟨_, rfl⟩
  obtain ⟨p, hp⟩ : ∃ p, nn - 1 = p := ⟨_, rfl⟩
  have hh : ((a : Int) + (b : Int)) / 2 = (mid : Int) := by omega
  have hnI : (mid : Int) + (m : Int) = (nn : Int) := by omega
  have hpI : (nn : Int) - 1 = (p : Int) := by omega
  have hmidI : (mid : Int) ≤ 1000000 := by omega
  have hnnI : (nn : Int) ≤ 2000000 := by omega
  have hb1 : a + 2 ≤ mid ∧ mid + 2 ≤ b ∧ nn = mid + m ∧ p + 1 = nn ∧ 2 * mid ≤ a + b ∧ a + b ≤ 2 * mid + 1 := by omega
  obtain ⟨lo, hi, hlh⟩ : ∃ lo hi, (mid < m ∧ lo + b = nn ∧ hi = mid) ∨ (m ≤ mid ∧ lo = a ∧ hi = m) := by
    by_cases h : mid < m
    · exact ⟨nn - b, mid, .inl ⟨h, by omega, rfl⟩⟩
    · exact ⟨a, m, .inr ⟨by omega, rfl, rfl⟩⟩
  have hloI : (lo : Int) ≤ 1000000 := by omega
  have hhiI : (hi : Int) ≤ 1000000 := by omega
  have HS := Lib.hid (And.intro hS (And.intro hP (And.intro hL hR)))
  have HAB := Lib.hid (And.intro ha (And.intro hm (And.intro hb (And.intro hN3 (And.intro hb1 (And.intro hL2 hR2))))))
  have HLH := Lib.hid hlh
  have HIH := Lib.hid IH
  have HNN := Lib.hid (And.intro hN hn)
  clear hS hP hN hn ha hm hb hN3 hL hR hL2 hR2 hb1 hlh IH hmid hnn hp
  go_enter Try.func92, Try.ntmps92
  go_upto_if 140 with (fail)
  clear hh
  go_cut [20, 21] (fun s20 s21 wx => s20 = .int .i64 (lo : Int) ∧ s21 = .int .i64 (hi : Int) ∧ wx = w)
  case first =>
    by_cases h : (mid : Int) < (m : Int)
    all_goals
      go_wp2_with (fail)
      go_meet
      case rel => exact ⟨by congr 1; have := HLH.out; omega, by congr 1; have := HLH.out; omega, rfl⟩
  case rest =>
    obtain ⟨rfl, rfl, hw0⟩ := hcut
    have hw1 := hw0.symm
    subst hw1
    clear ht0 ht1
    go_wp2_with (fail)
    clear hnI hpI
    go_loopg [20, 21, 23] (hi - lo) (fun gg v20 v21 _ wr => ∃ s r : Nat, v20 = .int .i64 (s : Int) ∧ v21 = .int .i64 (r : Int) ∧ Aside (lo ≤ s ∧ s ≤ r ∧ r ≤ hi ∧ gg = r - s) ∧ Aside (s = lo ∨ ∃ x y, L[s - a - 1]? = some x ∧ R[nn - s - m]? = some y ∧ ¬ cmpL y.L x.L < 0) ∧ Aside (r = hi ∨ ∃ x y, R[p - r - m]? = some x ∧ L[r - a]? = some y ∧ cmpL x.L y.L < 0) ∧ Aside (Below w.heap.size w wr))
    case atStart => exact ⟨lo, hi, rfl, rfl, ⟨Nat.le_refl _, by have := HLH.out; have := HAB.out; omega, Nat.le_refl _, rfl⟩, .inl rfl, .inl rfl, Below.refl _ _⟩
    case round =>
      obtain ⟨i, j, rfl, rfl, hij, hlo, hhi, hB⟩ := hrel
      have hiI : (i : Int) ≤ 1000000 := by have := hij.out; omega
      have hjI : (j : Int) ≤ 1000000 := by have := hij.out; omega
      by_cases hlt : i < j
      · have hltI : (i : Int) < (j : Int) := by omega
        obtain ⟨k, hk⟩ : ∃ k, (i + j) / 2 = k := ⟨_, rfl⟩
        have hk1 : i ≤ k := by omega
        have hk2 : k < j := by omega
        obtain ⟨q, hq⟩ : ∃ q, p - k = q := ⟨_, rfl⟩
        have hkr : a ≤ k ∧ k < m ∧ m ≤ q ∧ q < b ∧ q + k = p := by have := hij.out; have := HLH.out; have := HAB.out; omega
        obtain ⟨x, hx⟩ : ∃ x, L[k - a]? = some x := ⟨_, List.getElem?_eq_getElem (by have := HAB.out; omega)⟩
        obtain ⟨y, hy⟩ : ∃ y, R[q - m]? = some y := ⟨_, List.getElem?_eq_getElem (by have := HAB.out; omega)⟩
        have hRow : Sl wr 2 (.slice (some ⟨g, 0, none⟩) N c) N (plC (X ++ ((L ++ R) ++ Y))) := HS.out.1.below hB.out HS.out.1.lt
        have hatx : (X ++ ((L ++ R) ++ Y))[q]? = some y := by
          have h1 := at_behind X (L ++ R) Y (k := q - a) (by have := HAB.out; simp; omega)
          rw [show X.length + (q - a) = q by have := HAB.out; omega, List.getElem?_append_right (l₁ := L) (l₂ := R) (by have := HAB.out; omega), show q - a - L.length = q - m by have := HAB.out; omega, hy] at h1
          exact h1
        have hats : (X ++ ((L ++ R) ++ Y))[k]? = some x := by
          have h1 := at_behind X (L ++ R) Y (k := k - a) (by have := HAB.out; simp; omega)
          rw [show X.length + (k - a) = k by have := HAB.out; omega, List.getElem?_append_left (l₁ := L) (l₂ := R) (by have := HAB.out; omega), hx] at h1
          exact h1
        have hPl : PlOk wr g (L ++ R) := HS.out.2.1.keep (KeepK.of_below hB.out fun i hi => hi.1)
        have hxm : y ∈ L ++ R := List.mem_append_right _ (List.mem_of_getElem? hy)
        have hsm : x ∈ L ++ R := List.mem_append_left _ (List.mem_of_getElem? hx)
        have hkN : (k : Int) < (N : Int) := by have := HAB.out; omega
        have hqN : (q : Int) < (N : Int) := by have := HAB.out; omega
        have hkI : (k : Int) ≤ 1000000 := by omega
        have hw1 : IntKind.i64.wrap ((p : Int) - (k : Int)) = (q : Int) := by rw [IntKind.wrap_i64]; omega
        have hh : ((i : Int) + (j : Int)) / 2 = (k : Int) := by omega
        have HY := Lib.hid (And.intro hx (And.intro hy (And.intro hk1 (And.intro hk2 hkr))))
        have c0 : wr.cell? ⟨g, q * 2, none⟩ = some (.string y.nm) := hRow.cell rfl (plC_0 hatx)
        have c1 : wr.cell? ⟨g, q * 2 + 1, none⟩ = some (.slice y.A y.L.length y.c) := hRow.cell rfl (plC_1 hatx)
        have d0 : wr.cell? ⟨g, k * 2, none⟩ = some (.string x.nm) := hRow.cell rfl (plC_0 hats)
        have d1 : wr.cell? ⟨g, k * 2 + 1, none⟩ = some (.slice x.A x.L.length x.c) := hRow.cell rfl (plC_1 hats)

        have hgl : g < wr.heap.size := hRow.lt g rfl
        have hcall : ∀ W, Below wr.heap.size wr W → Calls Try.prog 69 #[.agg #[.string y.nm, .slice y.A y.L.length y.c], .agg #[.string x.nm, .slice x.A x.L.length x.c]] W fun e w' => e = .returned (.int .i64 (cmpL y.L x.L)) ∧ Below W.heap.size W w' := fun W hW =>
          cmpPl_any y x W g (hPl.keep (KeepK.of_below hW fun i hi => hi.1)) hxm hsm
        have HCL := Lib.hid hcall
        have hrefl : Below wr.heap.size wr wr := Below.refl _ _
        obtain ⟨z, hz⟩ : ∃ z, cmpL y.L x.L = z := ⟨_, rfl⟩
        rw [hz] at HCL
        have HZ := Lib.hid hz
        clear hz hatx hats hPl hxm hsm hcall hRow hk hk1 hk2 hlt hx hy hq hkr
        by_cases hz0 : z < 0
        all_goals
          first | have hze : decide (z < 0) = true := decide_eq_true hz0 | have hze : decide (z < 0) = false := decide_eq_false hz0
          go_wp2_with (fail)

          try clear hh
          go_region_held3 (fun w' => w'.cell? ⟨g, q * 2, none⟩ = some (.string y.nm) ∧ w'.cell? ⟨g, q * 2 + 1, none⟩ = some (.slice y.A y.L.length y.c) ∧ w'.cell? ⟨g, k * 2, none⟩ = some (.string x.nm) ∧ w'.cell? ⟨g, k * 2 + 1, none⟩ = some (.slice x.A x.L.length x.c) ∧ wr.heap.size ≤ w'.heap.size ∧ Below wr.heap.size wr w')
            (first | assumption | exact ⟨c0, c1, d0, d1, Nat.le_refl _, hrefl⟩ | exact k4D (by assumption) | exact k4D ⟨c0, c1, d0, d1, Nat.le_refl _, hrefl⟩ | exact k4C hgl (by assumption) hb | exact k4C hgl (k4D (by assumption)) hb | exact k4C hgl (k4D ⟨c0, c1, d0, d1, Nat.le_refl _, hrefl⟩) hb | exact k4C hgl ⟨c0, c1, d0, d1, Nat.le_refl _, hrefl⟩ hb)
            (first
              | (go_at_call 69; refine (HCL.out _ (l6 (by assumption))).mono ?_; rintro e w' ⟨rfl, hb⟩; have hbs := hb.size))
          have hcc : w'.cell? ⟨g, q * 2, none⟩ = some (.string y.nm) ∧ w'.cell? ⟨g, q * 2 + 1, none⟩ = some (.slice y.A y.L.length y.c) ∧ w'.cell? ⟨g, k * 2, none⟩ = some (.string x.nm) ∧ w'.cell? ⟨g, k * 2 + 1, none⟩ = some (.slice x.A x.L.length x.c) ∧ wr.heap.size ≤ w'.heap.size ∧ Below wr.heap.size wr w' := by assumption
          obtain ⟨c0', c1', d0', d1', hsz', hbf0⟩ := hcc
          have HBF := Lib.hid hbf0
          clear hbf0 c0 c1 d0 d1 hrefl c0' c1' d0' d1'
        · try go_wp2_with (fail)
          go_roundg (k - i)
          case measure => have := hij.out; have := HY.out; omega
          case rel =>
            obtain ⟨h1, h2, h3, h4⟩ := hij.out
            obtain ⟨q1, q2, q3, q4, q5, q6, q7, q8, q9⟩ := HY.out
            refine ⟨i, k, rfl, rfl, ⟨by omega, by omega, by omega, rfl⟩, hlo, .inr ⟨y, x, ?_, q1, by rw [HZ.out]; exact hz0⟩, hB.out.trans (HBF.out.mono hB.out.size)⟩
            rw [show p - k - m = q - m by omega]; exact q2
        · try go_wp2_with (fail)
          go_roundg (j - (k + 1))
          case measure => have := hij.out; have := HY.out; omega
          case rel =>
            obtain ⟨h1, h2, h3, h4⟩ := hij.out
            obtain ⟨q1, q2, q3, q4, q5, q6, q7, q8, q9⟩ := HY.out
            refine ⟨k + 1, j, by go_num, rfl, ⟨by omega, by omega, h3, rfl⟩, .inr ⟨x, y, ?_, ?_, by rw [HZ.out]; exact hz0⟩, hhi, hB.out.trans (HBF.out.mono hB.out.size)⟩
            · rw [show k + 1 - a - 1 = k - a by omega]; exact q1
            · rw [show nn - (k + 1) - m = q - m by have := HAB.out; omega]; exact q2
      · have hltI : ¬ (i : Int) < (j : Int) := by omega
        obtain rfl : i = j := by have := hij.out; omega
        obtain ⟨en, hen⟩ : ∃ en, nn - i = en := ⟨_, rfl⟩
        obtain ⟨s, hs⟩ : ∃ s, i - a = s := ⟨_, rfl⟩
        obtain ⟨t, ht⟩ : ∃ t, en - m = t := ⟨_, rfl⟩
        have hst : i = a + s ∧ en = m + t ∧ s ≤ L.length ∧ t ≤ R.length ∧ s + t + a = mid := by have := hij.out; have := HLH.out; have := HAB.out; omega
        have hfin := symm_ok cmpL_tot (key := Pl.L) HS.out.2.2.1 HS.out.2.2.2 (i := s) (j := t)
          (by rcases hlo.out with h | ⟨x, y, h1, h2, h3⟩
              · have := HLH.out; have := HAB.out; omega
              · right; right
                refine ⟨x, y, ?_, ?_, h3⟩
                · rw [← hs]; exact h1
                · rw [show t = nn - i - m by omega]; exact h2)
          (by rcases hhi.out with h | ⟨x, y, h1, h2, h3⟩
              · have := HLH.out; have := HAB.out; omega
              · right; right
                refine ⟨x, y, ?_, ?_, h3⟩
                · rw [show t - 1 = p - i - m by have := HAB.out; omega]; exact h1
                · rw [← hs]; exact h2)
        obtain ⟨L1, hL1⟩ : ∃ L1, L.take s = L1 := ⟨_, rfl⟩
        obtain ⟨L2, hL2⟩ : ∃ L2, L.drop s = L2 := ⟨_, rfl⟩
        obtain ⟨R1, hR1⟩ : ∃ R1, R.take t = R1 := ⟨_, rfl⟩
        obtain ⟨R2, hR2⟩ : ∃ R2, R.drop t = R2 := ⟨_, rfl⟩
        have eL : L = L1 ++ L2 := by rw [← hL1, ← hL2, List.take_append_drop]
        have eR : R = R1 ++ R2 := by rw [← hR1, ← hR2, List.take_append_drop]
        have l1 : L1.length = s := by rw [← hL1, List.length_take]; omega
        have l2 : L2.length = L.length - s := by rw [← hL2, List.length_drop]
        have r1 : R1.length = t := by rw [← hR1, List.length_take]; omega
        have r2 : R2.length = R.length - t := by rw [← hR2, List.length_drop]
        have sL := HS.out.2.2.1
        have sR := HS.out.2.2.2
        rw [eL] at sL
        rw [eR] at sR
        have hjoin := fun (M1 M2 : List Pl) (g1 : SrtK Pl.L cmpL M1) (g2 : SrtK Pl.L cmpL M2) (e1 : StS Pl.L M1 (L1 ++ R1)) (e2 : StS Pl.L M2 (L2 ++ R2)) => symm_join cmpL_tot (key := Pl.L) (L := L) (R := R) (i := s) (j := t) hfin.1 hfin.2 g1 g2 (by rw [hL1, hR1]; exact e1) (by rw [hL2, hR2]; exact e2)
        have HJ := Lib.hid hjoin
        have HSS := Lib.hid (And.intro (srt_app.1 sL) (srt_app.1 sR))
        have HST := Lib.hid (And.intro hst (And.intro eL (And.intro eR (And.intro l1 (And.intro l2 (And.intro r1 r2))))))
        have HR0 := Lib.hid (HS.out.1.below hB.out HS.out.1.lt)
        have HK0 : Hid (KeepK (fun i => i < w.heap.size ∧ i ≠ g) w wr) := Lib.hid (KeepK.of_below hB.out fun i hi => hi.1)
        have henI2 : (en : Int) ≤ 2000000 := by have := HAB.out; omega
        have henI : (nn : Int) - (i : Int) = (en : Int) := by have := HAB.out; omega
        clear hfin hjoin hs ht hst hL1 hL2 hR1 hR2 eL eR l1 l2 r1 r2 sL sR hlo hhi hlt hen
        obtain ⟨tb, htb⟩ : ∃ tb, decide (i < m ∧ m < en) = tb := ⟨_, rfl⟩
        go_upto_region 39 with (fail)
        clear henI
        go_cut [185] (fun v wx => v = .bool tb ∧ wx = wr)
        case first =>
          as_aux_lemma =>
          by_cases h1 : i < m
          · have h1I : (i : Int) < (m : Int) := by omega
            by_cases h2 : m < en
            · have h2I : (m : Int) < (en : Int) := by omega
              go_wp2_with (fail)
              go_meet
              case rel => exact ⟨by rw [← htb]; simp [h1, h2], rfl⟩
            · have h2I : ¬ (m : Int) < (en : Int) := by omega
              go_wp2_with (fail)
              go_meet
              case rel => exact ⟨by rw [← htb]; simp [h1, h2], rfl⟩
          · have h1I : ¬ (i : Int) < (m : Int) := by omega
            go_wp2_with (fail)
            go_meet
            case rel => exact ⟨by rw [← htb]; simp [h1], rfl⟩
        case rest =>
        obtain ⟨rfl, hw0⟩ := hcut
        have hw1 := hw0.symm
        subst hw1
        go_upto_if 185 with (fail)
        go_cut [] (fun wx => Aside (Sl wx 2 (.slice (some ⟨g, 0, none⟩) N c) N (plC (X ++ ((L1 ++ R1) ++ ((L2 ++ R2) ++ Y))))) ∧ Aside (KeepK (fun i => i < w.heap.size ∧ i ≠ g) w wx))
        case first =>
          as_aux_lemma =>
          have hD0 : Sl wr 2 (.slice (some ⟨g, 0, none⟩) N c) N (plC (X ++ ((L1 ++ L2 ++ (R1 ++ R2)) ++ Y))) := by
            have h1 := HR0.out
            rw [HST.out.2.1, HST.out.2.2.1] at h1
            exact h1
          have hlenN : (X ++ ((L1 ++ L2 ++ (R1 ++ R2)) ++ Y)).length = N := by
            have h1 := HNN.out.1
            rw [HST.out.2.1, HST.out.2.2.1] at h1
            exact h1
          cases tb with
          | true =>
            have h12 := of_decide_eq_true htb
            have hrot := rotate_any g c i m en N (X ++ L1) L2 R1 (R2 ++ Y) wr (by simpa using hD0) (by simpa using hlenN) HNN.out.2
              (by have := HST.out.1; have := HST.out.2.2.2.1; have := HAB.out.1; simp; omega) (by have := HST.out; have := HAB.out; simp; omega) (by have := HST.out; have := HAB.out; simp; omega) (by have := HST.out; have := HAB.out; omega) (by have := HST.out; omega)
            have HC := Lib.hid hrot
            clear hD0 hlenN hrot h12
            go_wp2_with (fail)
            with_reducible refine HC.out.mono ?_
            rintro e w1 ⟨rfl, h2, h3⟩
            have H := Lib.hid (And.intro h2 (HK0.out.trans (h3.mono fun i hi => ⟨Nat.lt_of_lt_of_le hi.1 HK0.out.size, hi.2⟩)))
            clear h2 h3
            go_wp2_with (fail)
            go_meet
            case rel => exact ⟨by have h := H.out.1; show Sl _ _ _ _ _; simpa using h, H.out.2⟩
          | false =>
            have h12 := of_decide_eq_false htb
            have hemp : L2 = [] ∨ R1 = [] := by
              by_cases h1 : i < m
              · right
                have h2 : ¬ m < en := fun h => h12 ⟨h1, h⟩
                exact List.eq_nil_of_length_eq_zero (by have := HST.out; omega)
              · left
                exact List.eq_nil_of_length_eq_zero (by have := HST.out; have := HAB.out; omega)
            have HD := Lib.hid (show Sl wr 2 (.slice (some ⟨g, 0, none⟩) N c) N (plC (X ++ ((L1 ++ R1) ++ ((L2 ++ R2) ++ Y)))) from by
              rcases hemp with h | h
              · rw [h] at hD0 ⊢; simpa using hD0
              · rw [h] at hD0 ⊢; simpa using hD0)
            clear hD0 hlenN h12 hemp
            go_wp2_with (fail)
            go_meet
            case rel => exact ⟨HD.out, HK0.out⟩
        case rest =>
        obtain ⟨hD1, hK1⟩ := hcut
        obtain ⟨w2, rfl⟩ : ∃ w2, w2 = wc := ⟨_, rfl⟩
        obtain ⟨tc, htc⟩ : ∃ tc, decide (a < i ∧ i < mid) = tc := ⟨_, rfl⟩
        go_upto_region 41 with (fail)
        go_cut [199] (fun v wx => v = .bool tc ∧ wx = w2)
        case first =>
          as_aux_lemma =>
          by_cases h1 : a < i
          · have h1I : (a : Int) < (i : Int) := by omega
            by_cases h2 : i < mid
            · have h2I : (i : Int) < (mid : Int) := by omega
              go_wp2_with (fail)
              go_meet
              case rel => exact ⟨by rw [← htc]; simp [h1, h2], rfl⟩
            · have h2I : ¬ (i : Int) < (mid : Int) := by omega
              go_wp2_with (fail)
              go_meet
              case rel => exact ⟨by rw [← htc]; simp [h1, h2], rfl⟩
          · have h1I : ¬ (a : Int) < (i : Int) := by omega
            go_wp2_with (fail)
            go_meet
            case rel => exact ⟨by rw [← htc]; simp [h1], rfl⟩
        case rest =>
        obtain ⟨rfl, hw0⟩ := hcut
        have hw1 := hw0.symm
        subst hw1
        go_upto_if 199 with (fail)
        go_cut [] (fun wx => ∃ M1, Aside (SrtK Pl.L cmpL M1 ∧ StS Pl.L M1 (L1 ++ R1)) ∧ Aside (Sl wx 2 (.slice (some ⟨g, 0, none⟩) N c) N (plC (X ++ (M1 ++ ((L2 ++ R2) ++ Y))))) ∧ Aside (KeepK (fun i => i < w.heap.size ∧ i ≠ g) w wx))
        case first =>
          as_aux_lemma =>
          cases tc with
          | true =>
            have h12 := of_decide_eq_true htc
            have hP2 : PlOk w2 g (L1 ++ R1) := (HS.out.2.1.keep hK1.out).mem fun q hq => by
              rw [HST.out.2.1, HST.out.2.2.1]
              rcases List.mem_append.1 hq with h | h <;> simp [h]
            have hcall := HIH.out a i mid X L1 R1 ((L2 ++ R2) ++ Y) w2 (by have := HST.out; have := HAB.out; omega) hD1.out hP2
              (by have h1 := HNN.out.1; rw [HST.out.2.1, HST.out.2.2.1] at h1; rw [← h1]; simp; omega) HAB.out.1 (by have := HST.out; omega) (by have := HST.out; omega) (by have := HST.out; omega) (by have := HST.out; omega) HSS.out.1.1 HSS.out.2.1
            have HC := Lib.hid hcall
            clear hP2 hcall h12
            go_wp2_with (fail)
            with_reducible refine HC.out.mono ?_
            rintro e w3 ⟨rfl, M1, g1, g2, g3, g4⟩
            have H := Lib.hid (And.intro g1 (And.intro g2 (And.intro g3 (hK1.out.trans (g4.mono fun i hi => ⟨Nat.lt_of_lt_of_le hi.1 hK1.out.size, hi.2⟩)))))
            clear g1 g2 g3 g4
            go_wp2_with (fail)
            go_meet
            case rel => exact ⟨M1, ⟨H.out.1, H.out.2.1⟩, H.out.2.2.1, H.out.2.2.2⟩
          | false =>
            have h12 := of_decide_eq_false htc
            have hs1 : SrtK Pl.L cmpL (L1 ++ R1) := by
              by_cases h1 : a < i
              · have h2 : ¬ i < mid := fun h => h12 ⟨h1, h⟩
                have : R1 = [] := List.eq_nil_of_length_eq_zero (by have := HST.out; omega)
                rw [this, List.append_nil]; exact HSS.out.1.1
              · have : L1 = [] := List.eq_nil_of_length_eq_zero (by have := HST.out; omega)
                rw [this, List.nil_append]; exact HSS.out.2.1
            have HD := Lib.hid hs1
            clear h12 hs1
            go_wp2_with (fail)
            go_meet
            case rel => exact ⟨L1 ++ R1, ⟨HD.out, StS.refl _⟩, hD1.out, hK1.out⟩
        case rest =>
        obtain ⟨M1, hM1, hD3, hK3⟩ := hcut
        obtain ⟨w4, rfl⟩ : ∃ w4, w4 = wc := ⟨_, rfl⟩
        have hM1l := hM1.out.2.len
        obtain ⟨td, htd⟩ : ∃ td, decide (mid < en ∧ en < b) = td := ⟨_, rfl⟩
        go_upto_region 43 with (fail)
        go_cut [213] (fun v wx => v = .bool td ∧ wx = w4)
        case first =>
          as_aux_lemma =>
          by_cases h1 : mid < en
          · have h1I : (mid : Int) < (en : Int) := by omega
            by_cases h2 : en < b
            · have h2I : (en : Int) < (b : Int) := by omega
              go_wp2_with (fail)
              go_meet
              case rel => exact ⟨by rw [← htd]; simp [h1, h2], rfl⟩
            · have h2I : ¬ (en : Int) < (b : Int) := by omega
              go_wp2_with (fail)
              go_meet
              case rel => exact ⟨by rw [← htd]; simp [h1, h2], rfl⟩
          · have h1I : ¬ (mid : Int) < (en : Int) := by omega
            go_wp2_with (fail)
            go_meet
            case rel => exact ⟨by rw [← htd]; simp [h1], rfl⟩
        case rest =>
        obtain ⟨rfl, hw0⟩ := hcut
        have hw1 := hw0.symm
        subst hw1
        cases td with
        | true =>
          have h12 := of_decide_eq_true htd
          have hP2 : PlOk w4 g (L2 ++ R2) := (HS.out.2.1.keep hK3.out).mem fun q hq => by
            rw [HST.out.2.1, HST.out.2.2.1]
            rcases List.mem_append.1 hq with h | h <;> simp [h]
          have hcall := HIH.out mid en b (X ++ M1) L2 R2 Y w4 (by have := HST.out; have := HAB.out; omega) (by have h := hD3.out; simpa using h) hP2
            (by have h1 := HNN.out.1; rw [HST.out.2.1, HST.out.2.2.1] at h1; rw [← h1]; simp at hM1l ⊢; omega) (by have := HST.out; have := HAB.out; simp at hM1l ⊢; omega) (by have := HST.out; have := HAB.out; omega) (by have := HST.out; have := HAB.out; omega) (by have := HST.out; have := HAB.out; omega) (by have := HST.out; have := HAB.out; omega) HSS.out.1.2.1 HSS.out.2.2.1
          have HC := Lib.hid hcall
          clear hP2 hcall h12 hM1l
          go_wp2_with (fail)
          with_reducible refine HC.out.mono ?_
          rintro e w5 ⟨rfl, M2, g1, g2, g3, g4⟩
          have H := Lib.hid (And.intro g1 (And.intro g2 (And.intro g3 (hK3.out.trans (g4.mono fun i hi => ⟨Nat.lt_of_lt_of_le hi.1 hK3.out.size, hi.2⟩)))))
          clear g1 g2 g3 g4
          go_wp2_with (fail)
          refine bodyPost_end (results_none rfl _ _ _) rfl ?_
          obtain ⟨g1, g2, g3, g4⟩ := H.out
          obtain ⟨k1, k2⟩ := HJ.out M1 M2 hM1.out.1 g1 hM1.out.2 g2
          exact ⟨rfl, M1 ++ M2, k1, k2, by simpa using g3, g4⟩
        | false =>
          have h12 := of_decide_eq_false htd
          have hs1 : SrtK Pl.L cmpL (L2 ++ R2) := by
            by_cases h1 : mid < en
            · have h2 : ¬ en < b := fun h => h12 ⟨h1, h⟩
              have : R2 = [] := List.eq_nil_of_length_eq_zero (by have := HST.out; have := HAB.out; omega)
              rw [this, List.append_nil]; exact HSS.out.1.2.1
            · have : L2 = [] := List.eq_nil_of_length_eq_zero (by have := HST.out; have := HAB.out; omega)
              rw [this, List.nil_append]; exact HSS.out.2.2.1
          obtain ⟨k1, k2⟩ := HJ.out M1 (L2 ++ R2) hM1.out.1 hs1 hM1.out.2 (StS.refl _)
          have HD := Lib.hid (And.intro k1 k2)
          clear h12 hs1 k1 k2 hM1l
          go_wp2_with (fail)
          refine bodyPost_end (results_none rfl _ _ _) rfl ?_
          have hh := hD3.out
          exact ⟨rfl, M1 ++ (L2 ++ R2), HD.out.1, HD.out.2, by simpa using hh, hK3.out⟩

/-- The merge, whatever there is. -/
theorem sym_any (g c N : Nat) (hn : N ≤ 1000000) : ∀ n, SymOk g c N n
  | 0 => fun a m b X L R Y w h => absurd h (Nat.not_lt_zero _)
  | n + 1 => fun a m b X L R Y w h hS hP hN ha hm hb hL1 hR1 hL hR => by
    by_cases h1 : L.length = 1
    · obtain ⟨x, rfl⟩ := List.length_eq_one_iff.1 h1
      exact sym_front g c a m b N X R Y x w hS hP hN hn ha hm hb hR
    · by_cases h2 : R.length = 1
      · obtain ⟨y, rfl⟩ := List.length_eq_one_iff.1 h2
        exact sym_back g c a m b N X L Y y w hS hP hN hn ha hm hb (by omega) hL
      · have ih := sym_any g c N hn n
        exact sym_mid g c a m b N X L R Y w hS hP hN hn ha hm hb (by omega) (by omega) hL hR fun a' m' b' X' L' R' Y' w' h' => ih a' m' b' X' L' R' Y' w' (by omega)
end Go.Proofs.Ytjhhhkhcnohmiaa
