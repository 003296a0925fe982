/- The walk of the reference's Check of a hash. -/
import Derived.Test.YthpicdilonlgiaaKeyedOf
namespace Go.Proofs.Ythpicdilonlgiaa
open Go.RowKit Go.Lib

theorem is_no1 {e f : Entry} (h : ¬ e.key.toList = f.key.toList) : Entry.is e.key e.text f = false := by
  unfold Entry.is; rw [Bool.and_eq_false_iff]; left; exact beq_eq_false_iff_ne.2 fun h2 => h h2.symm
theorem is_no2 {e f : Entry} (h : (e.text.toList == f.text.toList) = false) : Entry.is e.key e.text f = false := by
  unfold Entry.is; rw [Bool.and_eq_false_iff]; right; exact beq_eq_false_iff_ne.2 fun h2 => beq_eq_false_iff_ne.1 h h2.symm
theorem is_yes {e f : Entry} (h : e.key.toList = f.key.toList) (h2 : (e.text.toList == f.text.toList) = true) : Entry.is e.key e.text f = true := by
  unfold Entry.is; rw [Bool.and_eq_true]; exact ⟨beq_iff_eq.2 h.symm, beq_iff_eq.2 (beq_iff_eq.1 h2).symm⟩

/-- The first k entries have right keys, and no two are of one key and text. -/
def SndTo (xs : List Entry) (k : Nat) : Prop := ∀ j e, j < k → xs[j]? = some e → e.key.size = 16 ∧ ∀ i f, i < j → xs[i]? = some f → Entry.is e.key e.text f = false
theorem SndTo.zero (xs : List Entry) : SndTo xs 0 := fun _ _ hj => absurd hj (Nat.not_lt_zero _)
theorem SndTo.succ {xs : List Entry} {k : Nat} {e : Entry} (h : SndTo xs k) (he : xs[k]? = some e) (h16 : e.key.size = 16) (hn : ∀ i f, i < k → xs[i]? = some f → Entry.is e.key e.text f = false) : SndTo xs (k + 1) := by
  intro j f hj hf
  by_cases hk : j = k
  · subst hk; rw [he] at hf; cases hf; exact ⟨h16, hn⟩
  · exact h j f (by omega) hf
/-- Check's answer. -/
def ChkIs (xs : List Entry) (v : Int) : Prop := (v = 0 ∧ xs.length ≤ 4096 ∧ SndTo xs xs.length) ∨ (v = 2 ∧ ¬ (xs.length ≤ 4096 ∧ SndTo xs xs.length))
theorem ChkIs.eq {xs : List Entry} {u v : Int} (h : ChkIs xs u) (h' : ChkIs xs v) : u = v := by
  rcases h with ⟨rfl, a⟩ | ⟨rfl, a⟩ <;> rcases h' with ⟨rfl, b⟩ | ⟨rfl, b⟩ <;> first | rfl | exact absurd a b | exact absurd b a
def ChkPost (xs : List Entry) (w : World) (e : Ending) (w' : World) : Prop := ∃ v, ChkIs xs v ∧ e = .returned (.int .i64 v) ∧ Below w.heap.size w w'

set_option maxHeartbeats 2000000 in
set_option maxRecDepth 100000 in
theorem rcheck_any (i : Bool) (xs : List Entry) (A : Option Addr) (c : Nat) (w : World) (hT : Tab w A xs) (hbig : xs.length ≤ 9223372036854775807) (hc : xs.length ≤ c) :
    Calls Try.prog 53 #[.agg #[.bool i, .slice A xs.length c]] w (ChkPost xs w) := by
  have hb1 : Below w.heap.size w (w.alloc (.cells #[.bool i, .slice A xs.length c] 50)) := (Below.refl _ _).alloc (Nat.le_refl _) _
  have HT := Lib.hid hT
  have HB1 := Lib.hid hb1
  clear hT hb1
  by_cases h4 : 4096 < xs.length
  · have h4i : (4096 : Int) < (xs.length : Int) := by omega
    go_enter Try.func53, Try.ntmps53
    go_wp2_with (fail)
    go_ret
    exact ⟨2, .inr ⟨rfl, fun h => absurd h.1 (by omega)⟩, rfl, HB1.out⟩
  · have h4i : ¬ (4096 : Int) < (xs.length : Int) := by omega
    have h4' : xs.length ≤ 4096 := by omega
    clear h4
    go_enter Try.func53, Try.ntmps53
    go_wp2_with (fail)
    go_loopg [14] xs.length (fun gg s8 wr => ∃ kk : Nat, kk ≤ xs.length ∧ xs.length - kk ≤ gg ∧ s8 = .int .i64 kk ∧ Aside (Below (w.heap.size + 1) (w.alloc (.cells #[.bool i, .slice A xs.length c] 50)) wr) ∧ Aside (SndTo xs kk))
    case atStart => exact ⟨0, Nat.zero_le _, by omega, rfl, Below.refl _ _, SndTo.zero _⟩
    case round =>
      obtain ⟨kk, hkk, hg, rfl, BW, AA⟩ := hrel
      have hbw : Below w.heap.size w wr := HB1.out.trans (BW.out.mono (by omega))
      have HBW := Lib.hid hbw
      by_cases hlt : kk < xs.length
      · have hltz : (kk : Int) < (xs.length : Int) := by omega
        have HTr := HT.out.below hbw
        obtain ⟨b, off, rfl, hbs, hcc⟩ := HTr.2 (by omega)
        obtain ⟨e, he⟩ : ∃ e, xs[kk]? = some e := ⟨_, List.getElem?_eq_getElem hlt⟩
        have hok := HTr.1 e (List.mem_of_getElem? he)
        have hks : (e.key.size : Int) ≤ 9223372036854775807 := by have := hok.1; unfold maxLen at this; omega
        have c0 : wr.cell? ⟨b, off + kk * 3, none⟩ = some (.string e.key) := hcc kk e he 0 _ rfl
        have c1 : wr.cell? ⟨b, off + kk * 3 + 1, none⟩ = some (.string e.text) := hcc kk e he 1 _ rfl
        have c2 : wr.cell? ⟨b, off + kk * 3 + 2, none⟩ = some (.int .u64 e.n) := hcc kk e he 2 _ rfl
        have d1 : wr.cell? ⟨w.heap.size, 1, none⟩ = some (.slice (some ⟨b, off, none⟩) xs.length c) := by
          rw [BW.out.cell (p := ⟨w.heap.size, 1, none⟩) (by show w.heap.size < _; omega)]; simp
        have hsz : w.heap.size < wr.heap.size := by have := BW.out.size; simp at this; omega
        have hcap : (kk : Int) ≤ (c : Int) := by omega
        have HE := Lib.hid he
        have HTR := Lib.hid HTr
        clear hcc HTr hok he hbw
        by_cases h16 : e.key.size = 16
        · have h16i : ((e.key.size : Int) != 16) = false := by simp; omega
          have H16 := Lib.hid h16
          have hf : wr.cell? ⟨w.heap.size, 1, none⟩ = some (.slice (some ⟨b, off, none⟩) xs.length c) := d1
          have HB2 := Lib.hid (HBW.out.alloc HBW.out.size (.cells #[.string e.key, .string e.text, .int .u64 e.n] 62))
          have HTR2 := Lib.hid (HTR.out.below ((Below.refl wr.heap.size wr).alloc (Nat.le_refl _) (.cells #[.string e.key, .string e.text, .int .u64 e.n] 62)))
          clear h16
          go_wp2_with (fail)
          obtain ⟨wo, rfl⟩ : ∃ wo : World, wo = wr := ⟨_, rfl⟩
          have hwo : Aside (Below (wo.heap.size + 1) (wo.alloc (.cells #[.string e.key, .string e.text, .int .u64 e.n] 62)) (wo.alloc (.cells #[.string e.key, .string e.text, .int .u64 e.n] 62))) := Below.refl _ _
          clear c0 c1 c2 d1 hf h16i
          go_loopg [28] kk (fun gg s8 wr => ∃ mm : Nat, mm ≤ kk ∧ kk - mm ≤ gg ∧ s8 = .int .i64 mm ∧ Aside (Below (wo.heap.size + 1) (wo.alloc (.cells #[.string e.key, .string e.text, .int .u64 e.n] 62)) wr) ∧ Aside (∀ j f, j < mm → xs[j]? = some f → Entry.is e.key e.text f = false))
          case atStart => exact ⟨0, Nat.zero_le _, by omega, rfl, hwo, fun j f hj => absurd hj (Nat.not_lt_zero _)⟩
          case round =>
            obtain ⟨mm, hmm, hgm, rfl, BI, AI⟩ := hrel
            have hbi : Below w.heap.size w _ := HB2.out.trans (BI.out.mono (by omega))
            have HBI := Lib.hid hbi
            by_cases hlm : mm < kk
            · have hlmz : (mm : Int) < (kk : Int) := by omega
              have hmt : (mm : Int) < (xs.length : Int) := by omega
              obtain ⟨f, hf⟩ : ∃ f, xs[mm]? = some f := ⟨_, List.getElem?_eq_getElem (by omega)⟩
              obtain ⟨b', off', hA, hbs', hcc⟩ := (HT.out.below hbi).2 (by omega)
              obtain ⟨rfl, rfl⟩ : b = b' ∧ off = off' := by injection hA with hA; injection hA with h1 h2; exact ⟨h1, h2⟩
              have c0 : wr.cell? ⟨b, off + mm * 3, none⟩ = some (.string f.key) := hcc mm f hf 0 _ rfl
              have c1 : wr.cell? ⟨b, off + mm * 3 + 1, none⟩ = some (.string f.text) := hcc mm f hf 1 _ rfl
              have c2 : wr.cell? ⟨b, off + mm * 3 + 2, none⟩ = some (.int .u64 f.n) := hcc mm f hf 2 _ rfl
              have e0 : wr.cell? ⟨wo.heap.size, 0, none⟩ = some (.string e.key) := by
                rw [BI.out.cell (p := ⟨wo.heap.size, 0, none⟩) (by show wo.heap.size < _; omega)]; simp
              have e1 : wr.cell? ⟨wo.heap.size, 1, none⟩ = some (.string e.text) := by
                rw [BI.out.cell (p := ⟨wo.heap.size, 1, none⟩) (by show wo.heap.size < _; omega)]; simp
              have hsw : wo.heap.size < wr.heap.size := by have := BI.out.size; simp at this; omega
              have HF := Lib.hid hf
              have hBI1 : Below (wo.heap.size + 1) (wo.alloc (.cells #[.string e.key, .string e.text, .int .u64 e.n] 62)) (wr.alloc (.cells #[.string f.key, .string f.text, .int .u64 f.n] 62)) := BI.out.alloc (by omega) _
              have HBI1 := Lib.hid hBI1
              have HBI2 := Lib.hid (HBI.out.alloc HBI.out.size (.cells #[.string f.key, .string f.text, .int .u64 f.n] 62))
              clear hcc hf hA hBI1 hbi
              go_wp2_with (fail)
              all_goals first
                | (go_roundg (kk - (mm + 1))
                   case measure => omega
                   case rel =>
                     refine ⟨mm + 1, by omega, by omega, by go_num, HBI1.out, (show Aside _ from fun j f' hj hf' => ?_)⟩
                     by_cases h : j = mm
                     · subst h
                       rw [HF.out] at hf'
                       cases hf'
                       first | exact is_no1 (by assumption) | exact is_no2 (by assumption)
                     · exact AI.out j f' (by omega) hf')
                | (go_ret
                   refine ⟨2, .inr ⟨rfl, fun h => ?_⟩, rfl, HBI2.out⟩
                   have h2 := (h.2 kk e hlt HE.out).2 mm f hlm HF.out
                   rw [is_yes (by assumption) (by assumption)] at h2
                   cases h2)
            · obtain rfl : mm = kk := by omega
              clear hlm
              go_wp2_with (fail)
              go_roundg (xs.length - (mm + 1))
              case measure => omega
              case rel => exact ⟨mm + 1, by omega, by omega, by go_num, (BW.out.alloc (by omega) _).trans (BI.out.mono (by omega)), AA.out.succ HE.out H16.out AI.out⟩
        · have h16i : ((e.key.size : Int) != 16) = true := by simp; omega
          have hbad : ¬ (xs.length ≤ 4096 ∧ SndTo xs xs.length) := fun h => h16 (h.2 kk e hlt HE.out).1
          have HBAD := Lib.hid hbad
          have HB2 := Lib.hid (HBW.out.alloc HBW.out.size (.cells #[.string e.key, .string e.text, .int .u64 e.n] 62))
          clear h16 hbad
          go_wp2_with (fail)
          go_ret
          exact ⟨2, .inr ⟨rfl, HBAD.out⟩, rfl, HB2.out⟩
      · obtain rfl : kk = xs.length := by omega
        clear hlt
        go_wp2_with (fail)
        go_ret
        exact ⟨0, .inl ⟨rfl, h4', AA.out⟩, rfl, HBW.out⟩
end Go.Proofs.Ythpicdilonlgiaa
