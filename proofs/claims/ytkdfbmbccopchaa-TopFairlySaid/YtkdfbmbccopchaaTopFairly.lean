/- The walk of hardtacktop.TopFairly. -/
import Derived.Test.YtkdfbmbccopchaaFairM
import Derived.Test.YtkdfbmbccopchaaTopBegin
import Derived.Test.YtkdfbmbccopchaaInts
namespace Go.Proofs.Ytkdfbmbccopchaa
open Go.RowKit Go.Lib

/-- A queue of 200 that was made behind w0. -/
def FQ (w0 wr : World) (g n bound : Nat) (cl : Cl) : Prop :=
  ∃ (O : Nat → Prop) (n' : Nat), QS wr g n' 200 n cl O ∧ (∀ i, O i → w0.heap.size ≤ i ∧ i < wr.heap.size) ∧ n' ≤ bound ∧ Below w0.heap.size w0 wr
/-- .. and a row of numbers beside it. -/
def FR (w0 wr : World) (g n bound : Nat) (cl : Cl) (rv : Value) (ks : List Int) : Prop :=
  ∃ (O : Nat → Prop) (n' : Nat), QS wr g n' 200 n cl O ∧ (∀ i, O i → w0.heap.size ≤ i ∧ i < wr.heap.size) ∧ n' ≤ bound ∧ Below w0.heap.size w0 wr ∧ Sl wr 1 rv ks.length (ks.map u32V) ∧ ∀ k, rv.ownBlock = some k → ¬ O k
theorem after_in {O : Nat → Prop} {w0 w w' : World} (h : ∀ i, O i → w0.heap.size ≤ i ∧ i < w.heap.size) (hs : w0.heap.size ≤ w.heap.size) (hk : w.heap.size ≤ w'.heap.size) : ∀ i, After O w w' i → w0.heap.size ≤ i ∧ i < w'.heap.size := by
  intro i hi
  rcases hi with hi | hi
  · have := h i hi; omega
  · omega
theorem below_keep {O : Nat → Prop} {w0 w w' : World} (h : ∀ i, O i → w0.heap.size ≤ i ∧ i < w.heap.size) (hb : Below w0.heap.size w0 w) (hk : KeepK (fun i => i < w.heap.size ∧ ¬ O i) w w') : Below w0.heap.size w0 w' :=
  hb.trans (hk.below fun i hi => ⟨Nat.lt_of_lt_of_le hi hb.size, fun ho => by have := (h i ho).1; omega⟩)

set_option maxRecDepth 100000 in
set_option maxHeartbeats 8000000 in
theorem topFairly_law (w : World) (A : Option Addr) (ss : List Nat) (c : Nat) (o : Int) (hU : U32s w A ss) (hc : ss.length ≤ c) (hm : c ≤ maxLen) (ho : 0 ≤ o ∧ o ≤ 255) :
    Calls Try.prog 9 #[.slice A ss.length c, .int .u8 o] w fun e w' => e = .returned (.bool true) ∧ Below w.heap.size w w' := by
  obtain ⟨x, rfl⟩ := Int.eq_ofNat_of_zero_le ho.1
  have HU := Lib.hid hU
  unfold maxLen at hm
  have hlM : (ss.length : Int) ≤ 9223372036854775807 := by omega
  have HB := Lib.hid (fun W => begins_any W)
  by_cases h1 : 20 < ss.length
  · have h1I : 20 < (ss.length : Int) := by omega
    clear h1 hU hc hm
    go_enter Try.func9, Try.ntmps9
    go_wp2_with (fail)
    with_reducible refine (HB.out _).mono ?_
    rintro e w1 ⟨rfl, hb⟩
    go_wp2_with (fail)
    go_ret
    exact ⟨rfl, hb⟩
  have h1I : ¬ 20 < (ss.length : Int) := by omega
  have hxI : (x : Int) ≤ 255 := ho.2
  obtain ⟨n, hn⟩ : ∃ n, x % 5 + 1 = n := ⟨_, rfl⟩
  have hn5 : 1 ≤ n ∧ n ≤ 5 := by omega
  have hnI : (x : Int) % 5 + 1 = (n : Int) := by omega
  have HN := Lib.hid (fun W => New_q 200 (n : Int) W)
  have H20 := Lib.hid (And.intro (show ss.length ≤ 20 by omega) hn5)
  have hn5I : (n : Int) ≤ 5 := by omega
  clear h1 hU hc hm ho hn
  go_enter Try.func9, Try.ntmps9
  go_wp2_with (fail)
  with_reducible refine (HB.out _).mono ?_
  rintro e w1 ⟨rfl, hb⟩
  have B1 := Lib.hid hb
  clear hb
  go_wp2_with (fail)
  with_reducible refine (HN.out _).mono ?_
  rintro e w2 ⟨hb, hcase⟩
  have hfq0 : ∃ g, e = .returned (.tuple #[.pointer (some ⟨g, 0, none⟩), .int .i64 0]) ∧ FQ w w2 g n 0 (base [] n) := by
    rcases hcase with ⟨r, c', g, hr, hc', _, _, _, _, he, hg, hq⟩ | ⟨hno, _⟩
    · have h1 : r = 200 := by omega
      have h2 : c' = n := by omega
      subst h1 h2
      exact ⟨g, he, _, 0, hq, fun i hi => ⟨Nat.le_trans B1.out.size hi.1, hi.2⟩, Nat.le_refl _, B1.out.trans (hb.mono B1.out.size)⟩
    · exact absurd ⟨by omega, by omega, by have := H20.out; omega, by have := H20.out; omega⟩ hno
  obtain ⟨g, rfl, hfq⟩ := hfq0
  have HFQ := Lib.hid hfq
  clear hb hcase hfq
  go_wp2_with (fail)
  go_loopg [9, 10, 39] ss.length (fun gg _ _ v39 wr => ∃ (k : Nat) (ks : List Int), v39 = .int .i64 (k : Int) ∧ Aside (gg + k = ss.length ∧ ks.length ≤ k) ∧ Aside (FQ w wr g n (5 * k) (base ks n)))
  case atStart => exact ⟨0, [], rfl, ⟨rfl, Nat.le_refl _⟩, HFQ.out⟩
  case round =>
    obtain ⟨k, ks, rfl, hg, hQ⟩ := hrel
    by_cases hlt : k < ss.length
    · obtain ⟨b0, o, rfl, hal, hac⟩ := HU.out.2 (by omega)
      obtain ⟨y, hyk⟩ : ∃ y, ss[k]? = some y := ⟨_, List.getElem?_eq_getElem hlt⟩
      have hbw : Below w.heap.size w wr := hQ.out.choose_spec.choose_spec.2.2.2
      have a0 : wr.cell? ⟨b0, o + k, none⟩ = some (.int .u32 (y : Int)) := (hbw.cell (p := ⟨b0, o + k, none⟩) hal).trans (hac k y hyk)
      have hltI : (k : Int) < (ss.length : Int) := by omega
      have hy := HU.out.1 y (List.mem_of_getElem? hyk)
      have HK := Lib.hid (And.intro hlt (show (y : Int) ≤ 4294967295 by omega))
      clear hac hyk hlt hbw hy
      go_wp2_with (fail)
      go_loopg [10, 44] n (fun gi _ v44 wi => ∃ j : Nat, v44 = .int .i64 (j : Int) ∧ Aside (gi + j = n) ∧ Aside (FQ w wi g n (5 * k + j) (putTo ks n (y : Int) j)))
      case atStart => exact ⟨0, rfl, rfl, by show FQ _ _ _ _ _ _; rw [putTo_zero]; exact hQ.out⟩
      case round =>
        obtain ⟨j, rfl, hgi, hQi⟩ := hrel
        by_cases hj : j < n
        · have hjI : (j : Int) < (n : Int) := by omega
          obtain ⟨O, n', hq, hO, hn', hbi⟩ := hQi.out
          have hk20 : k < 20 := by have := HK.out.1; have := H20.out.1; omega
          have hpm := putTo_many ks n (y : Int) j (Nat.le_of_lt hj)
          have hpl := putTo_len ks n (y : Int) j
          have hks : ks.length ≤ 19 := by have := hg.out.2; omega
          have hnk : n * ks.length ≤ 5 * 19 := Nat.mul_le_mul H20.out.2.2 hks
          have hgl : (getC (putTo ks n (y : Int) j) (y : Int)).length ≤ 1000000 := by
            by_cases h : (y : Int) ∈ ks
            · have : putTo ks n (y : Int) j = base ks n := by unfold putTo; rw [if_pos h]
              rw [this, base_get h, ids_len]; have := H20.out.2; omega
            · rw [putTo_get ks n (y : Int) j h, ids_len]; have := H20.out.2; omega
          have hput := Put_q wr hq (y : Int) (j : Int) (by omega) HK.out.2 (by omega) (by have := H20.out.2; omega) (by omega) (by omega) (by omega) hgl
          have HP := Lib.hid hput
          have hstep := putTo_step (a := (y : Int)) hj (show n * ks.length + n < 200 by have := H20.out.2; omega)
          have HS := Lib.hid (And.intro hstep (And.intro hO (And.intro hn' (And.intro hbi hj))))
          clear hput hq hO hn' hbi hpm hpl hks hnk hgl hstep hj hk20
          go_wp2_with (fail)
          with_reducible refine HP.out.mono ?_
          rintro e w4 ⟨rfl, hq4, hk4⟩
          obtain ⟨hstep, hO, hn', hbi, hj⟩ := HS.out
          rw [hstep] at hq4
          have HQ4 := Lib.hid (show FQ w w4 g n (5 * k + (j + 1)) (putTo ks n (y : Int) (j + 1)) from ⟨_, _, hq4, after_in hO hbi.size hk4.size, by omega, below_keep hO hbi hk4⟩)
          clear hq4 hk4 hstep hO hn' hbi hj
          go_wp2_with (fail)
          go_roundg (n - (j + 1))
          case measure => have := hgi.out; have := HS.out.2.2.2.2; omega
          case rel => exact ⟨j + 1, by go_num, (by show _ = _; have := hgi.out; have := HS.out.2.2.2.2; omega), HQ4.out⟩
        · have hjI : ¬ (j : Int) < (n : Int) := by omega
          have hjn : j = n := by have := hgi.out; omega
          have HJ := Lib.hid hjn
          clear hj hjn
          go_wp2_with (fail)
          go_roundg (ss.length - (k + 1))
          case measure => have := hg.out; have := HK.out; omega
          case rel =>
            refine ⟨k + 1, if (y : Int) ∈ ks then ks else ks ++ [(y : Int)], by go_num, ?_, ?_⟩
            · show _ ∧ _
              have := hg.out; have := HK.out
              refine ⟨by omega, ?_⟩
              split
              · omega
              · simp; omega
            · show FQ _ _ _ _ _ _
              have h := hQi.out
              rw [HJ.out, putTo_all ks n _ H20.out.2.1] at h
              obtain ⟨O, n', h1, h2, h3, h4⟩ := h
              exact ⟨O, n', h1, h2, by have := H20.out.2; omega, h4⟩
    · have hltI : ¬ (k : Int) < (ss.length : Int) := by omega
      obtain ⟨O, n', hq, hO, hn', hbw⟩ := hQ.out
      have hk20 : k ≤ 20 := by have := hg.out; have := H20.out.1; omega
      have hr20 : ks.length ≤ 20 := by have := hg.out; omega
      obtain ⟨r, hr⟩ : ∃ r, ks.length = r := ⟨_, rfl⟩
      obtain ⟨N, hN⟩ : ∃ N, n * r = N := ⟨_, rfl⟩
      have hN100 : N ≤ 100 := by
        rw [← hN]
        have := Nat.mul_le_mul H20.out.2.2 (show r ≤ 20 by omega)
        omega
      have hlen := Len_q wr hq
      rw [base_many, hr, hN] at hlen
      have hblen : (base ks n).length = r := by simp [base, hr]
      have hrow := Row_q wr hq (by rw [hblen]; omega)
      have hkeys : (base ks n).map (fun p => u32V p.1) = ks.map u32V := by simp [base, List.map_map, Function.comp_def]
      rw [hblen, hkeys] at hrow
      have HLE := Lib.hid hlen
      have HRO := Lib.hid hrow
      have HQ := Lib.hid (And.intro hq (And.intro hO (And.intro hn' (And.intro hbw (And.intro hr (And.intro hN hk20))))))
      have hNI : (n : Int) * (r : Int) = (N : Int) := by rw [← hN]; simp
      have hN2 : (N : Int) ≤ 100 := by omega
      have hrI : (r : Int) ≤ 20 := by omega
      clear hlt hlen hrow hq hO hn' hbw hr hN hN100 hblen hkeys hk20 hr20
      go_wp2_with (fail)
      with_reducible refine HLE.out.mono ?_
      rintro e w4 ⟨rfl, rfl⟩
      go_wp2_with (fail)
      with_reducible refine HRO.out.mono ?_
      rintro e w5 ⟨rv, rfl, hs5, ho5, hb5⟩
      obtain ⟨Ar, cr, rfl, _, _⟩ := hs5.shape
      have hfr : FR w w5 g n 100 (turnC ks n 0 0) (.slice Ar r cr) ks := by
        obtain ⟨hq, hO, hn', hbw, hr, hN, hk20⟩ := HQ.out
        rw [turnC_zero]
        refine ⟨O, n', hq.keep (KeepK.of_below hb5 fun i hi => (hO i hi).2), fun i hi => ⟨(hO i hi).1, Nat.lt_of_lt_of_le (hO i hi).2 hb5.size⟩, by omega, hbw.trans (hb5.mono hbw.size), by rw [hr]; exact hs5, fun i hi ho => ?_⟩
        have := ho5 i hi
        have := (hO i ho).2
        omega
      have HFR := Lib.hid hfr
      clear hs5 ho5 hb5 hfr
      go_wp2_with (fail)
      go_loopg [13, 14, 15, 16, 58] N (fun gi _ _ _ _ v58 wi => ∃ i q s : Nat, v58 = .int .i64 (i : Int) ∧ Aside (gi + i = N) ∧ Aside (i = q * r + s ∧ (i < N → s < r ∧ q < n) ∧ s ≤ r) ∧ Aside (FR w wi g n (100 + i) (turnC ks n q s) (.slice Ar r cr) ks))
      case atStart =>
        refine ⟨0, 0, 0, rfl, rfl, ⟨by simp, fun h => ?_, Nat.zero_le _⟩, HFR.out⟩
        rw [← HQ.out.2.2.2.2.2.1] at h
        exact ⟨Nat.pos_of_mul_pos_left h, H20.out.2.1⟩
      case round =>
        obtain ⟨i, q, s, rfl, hgi, hqs, hF⟩ := hrel
        by_cases hi : i < N
        · have hiI : (i : Int) < (N : Int) := by omega
          obtain ⟨hs, hq⟩ := hqs.out.2.1 hi
          obtain ⟨O', m', hQ', hO', hm', hb', hR', hno'⟩ := hF.out
          have hr := HQ.out.2.2.2.2.1
          obtain ⟨a, ha⟩ : ∃ a, ks[s]? = some a := ⟨_, List.getElem?_eq_getElem (by omega)⟩
          have htl := turnC_len ks n q s (by omega)
          have htm := turnC_many ks n q s (by omega)
          rw [hr, HQ.out.2.2.2.2.2.1] at htm
          have hnx := Next_q wr hQ' (by omega) (by omega) (by omega)
          unfold NextPost at hnx
          rw [turnC_next hq ha] at hnx
          have HNX := Lib.hid hnx
          rw [hr] at hR'
          obtain ⟨rb, rc, hrv, hrb, _, _, hrcell⟩ := hR'.form (by omega)
          injection hrv with hAr _ hcr
          subst hAr hcr
          have hmod : (i : Int) % (r : Int) = (s : Int) := by
            have := hqs.out.1
            rw [show (i : Int) = ((i : Nat) : Int) from rfl, ← Int.natCast_emod, this, Nat.mul_comm, Nat.mul_add_mod, Nat.mod_eq_of_lt hs]
          have hdiv : (i : Int) / (r : Int) = (q : Int) := by
            have := hqs.out.1
            rw [← Int.natCast_ediv, this, Nat.mul_comm, Nat.mul_add_div (by omega), Nat.div_eq_of_lt hs, Nat.add_zero]
          have hcell := hrcell s (u32V a) (by rw [List.getElem?_map, ha]; rfl)
          have hsI : (s : Int) < (r : Int) := by omega
          have hr0 : ((r : Int) == 0) = false := by simp; omega
          have hrne : ¬ (r : Int) = 0 := by omega
          have hiI2 : (i : Int) ≤ 100 := by omega
          have haa : (a == a) = true := by simp
          have hqI : (q : Int) ≤ 5 := by omega
          have hqq : ((q : Int) == (q : Int)) = true := by simp
          have HS := Lib.hid (And.intro hi (And.intro hs (And.intro hq (And.intro hO' (And.intro hm' (And.intro hb' (And.intro hR' (And.intro hno' (And.intro hrb (And.intro hcell hr))))))))))
          clear hnx hrcell hR' hQ' hO' hm' hb' htl htm hi ha hr hno' hcell hs hq
          go_wp2_with (fail)
          with_reducible refine HNX.out.mono ?_
          rintro e w6 ⟨rfl, hq6, hk6⟩
          have hc6 : w6.cell? ⟨rb, s, none⟩ = some (.int .u32 a) := (hk6.cell (p := ⟨rb, s, none⟩) ⟨HS.out.2.2.2.2.2.2.2.2.1, HS.out.2.2.2.2.2.2.2.1 rb rfl⟩).trans HS.out.2.2.2.2.2.2.2.2.2.1
          have H6 := Lib.hid (And.intro hq6 hk6)
          clear hq6 hk6
          go_wp2_with (fail)
          obtain ⟨hi, hs, hq, hO', hm', hb', hR', hno', hrb', hcell, hr⟩ := HS.out
          obtain ⟨hq6, hk6⟩ := H6.out
          have hrown : ∀ k, (Value.slice (some ⟨rb, 0, none⟩) r cr).ownBlock = some k → rb = k := fun k hk => by simpa [Value.ownBlock] using hk
          have hfr : FR w w6 g n (100 + (i + 1)) (turnC ks n q (s + 1)) (.slice (some ⟨rb, 0, none⟩) r cr) ks := by
            refine ⟨_, _, hq6, after_in hO' hb'.size hk6.size, by omega, below_keep hO' hb' hk6, ?_, fun k hk ho => ?_⟩
            · rw [hr]
              exact hR'.keepK hk6 fun k hk => by
                have e := hrown k hk
                exact ⟨by omega, hno' k hk⟩
            · have e := hrown k hk
              rcases ho with ho | ho
              · exact hno' k hk ho
              · omega
          have hsz := H6.out.2.size
          clear hmod hdiv hr0 hrne haa hqq hc6 hcell
          go_roundg (N - (i + 1))
          case measure => have := hgi.out; omega
          case rel =>
            by_cases hs2 : s + 1 < r
            · exact ⟨i + 1, q, s + 1, by go_num, (by show _ = _; have := hgi.out; omega), ⟨by have := hqs.out.1; omega, fun _ => ⟨hs2, hq⟩, by omega⟩, hfr⟩
            · by_cases hq2 : q + 1 < n
              · refine ⟨i + 1, q + 1, 0, by go_num, (by show _ = _; have := hgi.out; omega), ⟨?_, fun _ => ⟨by omega, hq2⟩, by omega⟩, ?_⟩
                · have h1 := hqs.out.1
                  rw [Nat.succ_mul]
                  omega
                · show FR _ _ _ _ _ _ _ _
                  have e : s + 1 = ks.length := by omega
                  rw [← turnC_round hq2, ← e]
                  exact hfr
              · refine ⟨i + 1, q, s + 1, by go_num, (by show _ = _; have := hgi.out; omega), ⟨by have := hqs.out.1; omega, fun h => ?_, by omega⟩, hfr⟩
                exfalso
                have h1 := hqs.out.1
                have h2 := HQ.out.2.2.2.2.2.1
                have e1 : q + 1 = n := by omega
                rw [← h2, ← e1, Nat.succ_mul] at h
                omega
        · have hiI : ¬ (i : Int) < (N : Int) := by omega
          obtain ⟨O', m', hQ', hO', hm', hb', hR', hno'⟩ := hF.out
          have HBB := Lib.hid hb'
          have hNN : ((N : Int) == (N : Int)) = true := by simp
          clear hi hQ' hO' hm' hb' hR' hno'
          go_wp2_with (fail)
          go_ret
          exact ⟨rfl, HBB.out⟩
end Go.Proofs.Ytkdfbmbccopchaa
