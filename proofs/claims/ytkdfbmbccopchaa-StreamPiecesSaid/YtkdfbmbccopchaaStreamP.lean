/- The walk of hardtacklaw30.StreamPieces. -/
import Derived.Test.YtkdfbmbccopchaaStreamF
namespace Go.Proofs.Ytkdfbmbccopchaa
open Go.RowKit Go.Lib

theorem src_ttab {P : Program} {tx e' : TypeId} (hk : P.underlying tx = some (.slice e')) {A : Option Addr} {n c : Nat} {news : List Value} {w : World} (h : TTab w A news) (hn : news.length = n) (h1 : ∀ x ∈ news, x.oneCell' = true) : Src P 1 tx (.slice A n c) n news w := by
  by_cases h0 : 0 < n
  · obtain ⟨b, off, rfl, _, hc⟩ := h (by omega)
    exact Src.ofSlice _ hk ⟨b, off, none⟩ n c news (by omega) (fun j u hu => by
      have : (⟨b, off, none⟩ : Addr).add j = ⟨b, off + j, none⟩ := by unfold Addr.add; split <;> simp_all
      rw [this]
      exact hc j u hu) h1
  · obtain rfl : n = 0 := by omega
    obtain rfl : news = [] := List.eq_nil_of_length_eq_zero hn
    match A with
    | none => exact Src.ofNil _ hk c
    | some a => exact Src.ofSlice _ hk a 0 c [] rfl (fun j u hu => by simp at hu) (fun x hx => by simp at hx)
theorem encM_bound : ∀ L : List (List UInt8), (∀ x ∈ L, x.length ≤ 1000) → (encM L).length ≤ 1002 * L.length
  | [], _ => by simp [encM]
  | x :: xs, h => by
    have h1 := h x (by simp)
    have h2 := encM_bound xs (fun y hy => h y (by simp [hy]))
    rw [encM_length_cons, List.length_cons]
    omega
def lsB (xs : List ByteArray) : List (List UInt8) := xs.map fun x => x.data.toList
theorem txtV_lsB (xs : List ByteArray) : txtV (lsB xs) = xs.map Value.string := by simp [txtV, lsB]
theorem lsB_length (xs : List ByteArray) : (lsB xs).length = xs.length := by simp [lsB]
theorem lsB_at {xs : List ByteArray} {k : Nat} {e : ByteArray} (h : xs[k]? = some e) : (lsB xs)[k]? = some e.data.toList := by simp [lsB, h]
theorem take_at {α : Type} {L : List α} {k : Nat} {x : α} (h : L[k]? = some x) : L.take (k + 1) = L.take k ++ [x] := by
  obtain ⟨hlt, rfl⟩ := List.getElem?_eq_some_iff.1 h
  exact List.take_succ_eq_append_getElem hlt
theorem toList_extract0 (s : ByteArray) (n : Nat) : (s.extract 0 n).data.toList = s.data.toList.take n := by
  rw [ext_toList]; simp
theorem toList_extractN (s : ByteArray) (n : Nat) : (s.extract n s.size).data.toList = s.data.toList.drop n := by
  rw [ext_toList, List.take_of_length_le (by simp)]

/-- What the second loop has: what came, what waits, what is still to be fed, are what there was. -/
def Fits (ls done : List (List UInt8)) (wt rem : List UInt8) : Prop := done ++ (mss (wt ++ rem)).1 = ls ∧ (mss (wt ++ rem)).2 = [] ∧ endM wt ∧ wt.length + rem.length ≤ 20040
theorem Fits.start {ls : List (List UInt8)} (h : ∀ x ∈ ls, x.length ≤ 1000) (hl : ls.length ≤ 20) : Fits ls [] [] (encM ls) := by
  have h2 : mss ([] ++ encM ls) = (ls, []) := by
    have := mss_of ls [] (fun x hx => by have := h x hx; omega) trivial
    rwa [List.append_nil] at this
  have h3 := encM_bound ls h
  exact ⟨by rw [h2]; rfl, by rw [h2], trivial, by simp; omega⟩
theorem Fits.step {ls done : List (List UInt8)} {wt rem : List UInt8} (h : Fits ls done wt rem) (n : Nat) : Fits ls (done ++ (mss (wt ++ rem.take n)).1) (mss (wt ++ rem.take n)).2 (rem.drop n) := by
  obtain ⟨h1, h2, h3, h4⟩ := h
  have e : wt ++ rem = (wt ++ rem.take n) ++ rem.drop n := by rw [List.append_assoc, List.take_append_drop]
  rw [e, mss_append] at h1 h2
  have h5 := mss_len2 (wt ++ rem.take n)
  have h6 : (rem.take n).length + (rem.drop n).length = rem.length := by rw [← List.length_append, List.take_append_drop]
  rw [List.length_append] at h5
  exact ⟨by rw [List.append_assoc]; exact h1, h2, mss_end _, by omega⟩
theorem Fits.done {ls done : List (List UInt8)} {wt : List UInt8} (h : Fits ls done wt []) : done = ls ∧ wt = [] := by
  obtain ⟨h1, h2, h3, _⟩ := h
  rw [List.append_nil, mss_none h3] at h1 h2
  exact ⟨by simpa using h1, h2⟩
theorem Fits.len {ls done : List (List UInt8)} {wt rem : List UInt8} (h : Fits ls done wt rem) : done.length ≤ ls.length := by
  rw [← h.1, List.length_append]; omega

set_option maxHeartbeats 8000000 in
set_option maxRecDepth 100000 in
theorem streamPieces_law (w : World) (A : Option Addr) (xs : List ByteArray) (c : Nat) (B : Option Addr) (cs : List Nat) (d : Nat) (hT : TTab w A (xs.map Value.string)) (_hx : ∀ x ∈ xs, x.size ≤ maxLen) (hc : xs.length ≤ c) (hm : c ≤ maxLen)
    (hU : TTab w B (cs.map fun n : Nat => Value.int .u8 (n : Int))) (hu : ∀ x ∈ cs, x < 256) (hd : cs.length ≤ d) (hdm : d ≤ maxLen) :
    Calls Try.prog 8 #[.slice A xs.length c, .slice B cs.length d] w fun e w' => e = .returned (.bool true) ∧ Below w.heap.size w w' := by
  obtain ⟨i0, hi0, hz0, hz1, hz2⟩ := info_str
  have HT := Lib.hid (And.intro hT _hx)
  have HU := Lib.hid (And.intro hU hu)
  unfold maxLen at hm hdm
  have hlI : (xs.length : Int) ≤ 9223372036854775807 := by omega
  have hdI : (cs.length : Int) ≤ 9223372036854775807 := by omega
  clear hT _hx hc hm hU hu hd hdm
  go_enter Try.func8, Try.ntmps8
  go_wp2_with (fail)
  refine (lives30 _).mono ?_
  rintro e w1 ⟨rfl, hb⟩
  have B1 := Lib.hid hb
  clear hb
  go_wp2_with (fail)
  go_loopg [5, 20] xs.length (fun g a v wr => ∃ (k : Nat) (R : ByteArray), g + k = xs.length ∧ a = .string R ∧ v = .int .i64 (k : Int) ∧ k ≤ 20 ∧ Aside (R.data.toList = encM ((lsB xs).take k)) ∧ Aside (∀ x ∈ (lsB xs).take k, x.length ≤ 1000) ∧ Aside (Below w.heap.size w wr))
  case atStart => exact ⟨0, ⟨#[]⟩, by omega, rfl, rfl, by omega, (show Aside _ from rfl), (show Aside _ from fun x hx => by simp at hx), B1.out⟩
  case round =>
    obtain ⟨k, R, hg, rfl, rfl, hk20, hR, hsm, hB⟩ := hrel
    by_cases hlt : k < xs.length
    · obtain ⟨b0, o, rfl, hal, hac⟩ := HT.out.1 (by rw [List.length_map]; omega)
      obtain ⟨e, he⟩ : ∃ e, xs[k]? = some e := ⟨_, List.getElem?_eq_getElem hlt⟩
      have hek : (xs.map Value.string)[k]? = some (.string e) := by rw [List.getElem?_map, he]; rfl
      have a0 : wr.cell? ⟨b0, o + k, none⟩ = some (.string e) := by rw [hB.out.cell (p := ⟨b0, o + k, none⟩) hal]; exact hac k _ hek
      have hes := HT.out.2 e (List.mem_of_getElem? he)
      unfold maxLen at hes
      have hltI : (k : Int) < (xs.length : Int) := by omega
      have hkI : (k : Int) ≤ 20 := by omega
      have HE := Lib.hid (lsB_at he)
      clear hac he hek
      have hcase : ((k : Int) == 20) = true ∨ (((k : Int) == 20) = false ∧ (1000 : Int) < (e.size : Int)) ∨ (((k : Int) == 20) = false ∧ ¬ (1000 : Int) < (e.size : Int)) := by
        by_cases h : k = 20
        · left; simp; omega
        · by_cases h2 : 1000 < e.size
          · right; left; exact ⟨by simp; omega, by omega⟩
          · right; right; exact ⟨by simp; omega, by omega⟩
      rcases hcase with h1 | ⟨h1, h2⟩ | ⟨h1, h2⟩
      · have hB' := Lib.hid hB.out
        clear hR hsm hes
        go_wp2_with (fail)
        go_ret
        exact ⟨rfl, hB'.out⟩
      · have hB' := Lib.hid hB.out
        clear hR hsm hes
        go_wp2_with (fail)
        go_ret
        exact ⟨rfl, hB'.out⟩
      · have h20 : k < 20 := by
          have : ¬ ((k : Int) = 20) := by simpa using h1
          omega
        have hesz : e.size ≤ 1000 := by omega
        have hRl : R.size ≤ 20040 := by
          have h3 := encM_bound _ hsm.out
          rw [← hR.out, List.length_take] at h3
          simp at h3
          omega
        have hF := fun W => sFrame_any e (by unfold maxLen; omega) W
        rw [show frameV e = (⟨(hdM e.size ++ e.data.toList).toArray⟩, 0) from if_neg (by omega)] at hF
        obtain ⟨f, hf⟩ : ∃ f : ByteArray, (⟨(hdM e.size ++ e.data.toList).toArray⟩ : ByteArray) = f := ⟨_, rfl⟩
        rw [hf] at hF
        have hfl : f.data.toList = hdM e.size ++ e.data.toList := by rw [← hf]
        have hfs : f.size = 2 + e.size := by
          have := congrArg List.length hfl
          rw [List.length_append] at this
          simp [hdM] at this
          omega
        have hcs : R.size + f.size ≤ 9223372036854775807 := by omega
        have HF := Lib.hid hF
        have HX := Lib.hid (And.intro hfl (And.intro h20 hesz))
        clear hF hf hfl hfs hes hesz hRl h20
        go_wp2_with (fail)
        refine (HF.out _).mono ?_
        rintro e1 w2 ⟨rfl, hb⟩
        have B2 := Lib.hid (hB.out.trans (hb.mono hB.out.size))
        clear hb a0 HF
        go_wp2_with (fail)
        go_roundg (xs.length - (k + 1))
        case measure => omega
        case rel =>
          refine ⟨k + 1, R ++ f, by omega, rfl, by go_num, by have := HX.out.2.1; omega, ?_, ?_, B2.out⟩
          · show _ = _
            rw [take_at HE.out, encM_append, ByteArray.data_append, Array.toList_append, hR.out, HX.out.1]
            simp [encM]
          · show ∀ x ∈ _, _
            rw [take_at HE.out]
            intro x hx
            rcases List.mem_append.1 hx with hx | hx
            · exact hsm.out x hx
            · rw [List.mem_singleton.1 hx]
              have := HX.out.2.2
              simpa using this
    · obtain rfl : k = xs.length := by omega
      have hF := Lib.hid (show Fits (lsB xs) [] [] R.data.toList ∧ xs.length ≤ 20 from by
        have e1 : (lsB xs).take xs.length = lsB xs := by rw [← lsB_length xs, List.take_length]
        have h1 := hR.out
        have h2 := hsm.out
        rw [e1] at h1 h2
        rw [h1]
        exact ⟨Fits.start h2 (by rw [lsB_length]; exact hk20), hk20⟩)
      have hB' := Lib.hid hB.out
      clear hR hsm hk20 hlt hB
      go_wp2_with (fail)
      refine (sNew_any _).mono ?_
      rintro e w7 ⟨rfl, rfl⟩
      have S7 := Lib.hid (SW.start wr)
      have B7 := Lib.hid (hB'.out.alloc hB'.out.size (.cells #[.slice none 0 0] 127))
      obtain ⟨W6, hW6⟩ : ∃ W6, wr = W6 := ⟨_, rfl⟩
      rw [hW6] at S7 B7 hB' ⊢
      clear hW6
      go_wp2_with (fail)
      obtain ⟨e9, he9, he9'⟩ : ∃ e9 : Nat, e9 ≤ 1 ∧ (e9 = 0 ↔ R.size = 0) := by
        by_cases h : R.size = 0
        · exact ⟨0, by omega, by simp [h]⟩
        · exact ⟨1, by omega, by simp [h]⟩
      go_loopg [5, 11, 12] (cs.length + e9) (fun g v5 v11 v12 wr => ∃ (k e0 : Nat) (z : Int) (R : ByteArray) (wt : List UInt8) (done : List (List UInt8)) (nd : Nat) (A1 : Option Addr) (c1 : Nat),
        g = (cs.length - k) + e0 ∧ e0 ≤ 1 ∧ v5 = .string R ∧ v11 = .slice A1 nd c1 ∧ v12 = .int .i64 z ∧ Aside (e0 = 0 ↔ R.size = 0) ∧ Aside (R.size ≠ 0 → z = (k : Int) ∧ k ≤ cs.length) ∧ Aside (nd = done.length) ∧ Aside (Sl wr 1 (.slice A1 nd c1) nd (txtV done)) ∧ Aside (∀ g, (Value.slice A1 nd c1).ownBlock = some g → w.heap.size ≤ g) ∧
        Aside (SW (fun i => i < W6.heap.size ∨ (Value.slice A1 nd c1).ownBlock = some i) W6.heap.size wt wr) ∧ Aside (Fits (lsB xs) done wt R.data.toList) ∧ Aside (Below w.heap.size w wr))
      case atStart => exact ⟨0, e9, 0, R, [], [], 0, none, 0, by omega, he9, rfl, rfl, rfl, he9', (show Aside _ from fun _ => ⟨rfl, Nat.zero_le _⟩), (show Aside _ from rfl), Sl.nil _ _, (show Aside _ from fun g hg => by simp [Value.ownBlock] at hg), S7.out.mono (fun i hi => by rcases hi with hi | hi; exact hi; simp [Value.ownBlock] at hi), hF.out.1, B7.out⟩
      case round =>
        obtain ⟨k, e0, z, R, wt, done, nd, A1, c1, hg, he0, rfl, rfl, rfl, hee, hz, hnd, hsl, hown, hS, hfit, hB⟩ := hrel
        by_cases hR0 : R.size = 0
        · have hRe : R = ⟨#[]⟩ := by
            apply ByteArray.ext
            exact Array.eq_empty_of_size_eq_zero hR0
          subst hRe
          obtain ⟨h1, h2⟩ := hfit.out.done
          subst h1 h2
          have hndx : nd = xs.length := by rw [hnd.out, lsB_length]
          subst hndx
          have hT1 : TTab wr A1 (xs.map Value.string) := by
            rw [← txtV_lsB]
            have e2 : (txtV (lsB xs)).length = xs.length := by rw [txtV_length, lsB_length]
            have := hsl.out
            rw [← e2] at this
            exact ttab_of_sl this
          have hT2 := HT.out.1.below (hB.out.mono (Nat.le_refl _))
          have HM := Lib.hid (sameT_any xs A1 A c1 c wr hT1 hT2 (by have := hF.out.2; omega))
          clear hg he0 hee hz hnd hsl hfit hR0 hT1 hT2
          go_wp2_with (fail)
          refine HM.out.mono ?_
          rintro e1 w2 ⟨rfl, hb⟩
          have S2 := Lib.hid (hS.out.next hb)
          have B2 := Lib.hid (hB.out.trans (hb.mono hB.out.size))
          clear hb
          go_wp2_with (fail)
          refine (cWt S2.out).mono ?_
          rintro e2 w3 ⟨rfl, rfl⟩
          go_wp2_with (fail)
          go_ret
          exact ⟨rfl, B2.out⟩
        · have hRt : R.toList.isEmpty = false := by
            rw [ByteArray.toList_eq]
            cases hh : R.data.toList with
            | nil =>
              have h3 : R.data.toList.length = R.size := by simp
              rw [hh] at h3
              exact absurd h3.symm hR0
            | cons a t => rfl
          obtain ⟨rfl, hkc⟩ := hz.out hR0
          have hRs : R.size ≤ 20040 := by
            have := hfit.out.2.2.2
            simp at this
            omega
          have hRI : (R.size : Int) ≤ 20040 := by omega
          by_cases hlt : k < cs.length
          · obtain ⟨b1, o1, rfl, hal, hac⟩ := HU.out.1 (by rw [List.length_map]; omega)
            obtain ⟨x, hx⟩ : ∃ x, cs[k]? = some x := ⟨_, List.getElem?_eq_getElem hlt⟩
            have hxk : (cs.map fun n : Nat => Value.int .u8 (n : Int))[k]? = some (.int .u8 (x : Int)) := by rw [List.getElem?_map, hx]; rfl
            have a0 : wr.cell? ⟨b1, o1 + k, none⟩ = some (.int .u8 (x : Int)) := by rw [hB.out.cell (p := ⟨b1, o1 + k, none⟩) hal]; exact hac k _ hxk
            have hxs : x < 256 := HU.out.2 x (List.mem_of_getElem? hx)
            have hxI : (x : Int) ≤ 255 := by omega
            have hltI : (k : Int) < (cs.length : Int) := by omega
            clear hac hx hxk
            go_wp2_with (fail)
            obtain ⟨n, hn1, hn2⟩ : ∃ n : Nat, min (R.size : Int) (x : Int) = (n : Int) ∧ n ≤ R.size := ⟨min R.size x, by omega, by omega⟩
            rw [hn1, Int.toNat_natCast]
            have HE2 := Lib.hid (show (cs.length - (k + 1)) + (if (R.extract n R.size).size = 0 then 0 else 1) < (cs.length - k) + e0 ∧ k + 1 ≤ cs.length from by
              refine ⟨?_, by omega⟩
              have : ¬ e0 = 0 := fun h => hR0 (hee.out.1 h)
              split <;> omega)
            clear hn1 hltI hlt hxs hxI a0 hee hz
            have hfr : wr.heap.size = wr.heap.size := rfl
            refine (feed_post _ _ wt (R.extract 0 n) wr hS.out (by have h3 := hfit.out.2.2.2; simp at h3 ⊢; omega)).mono ?_
            rintro e2 w2 ⟨A2, c2, R2, rfl, h1, h2, h3, h4⟩
            rw [toList_extract0] at h1 h3
            have HF2 := Lib.hid (hfit.out.step n)
            have hl1 := HF2.out.len
            have hl2 := lsB_length xs
            have hl3 := hF.out.2
            have hln : nd + (mss (wt ++ R.data.toList.take n)).1.length ≤ 20 := by rw [List.length_append] at hl1; have := hnd.out; omega
            have hln0 : (mss (wt ++ (R.extract 0 n).data.toList)).1.length = (mss (wt ++ R.data.toList.take n)).1.length := by rw [toList_extract0]
            rw [hln0]
            have HSR := Lib.hid (src_ttab (P := Try.prog) Try.underlying74 (c := c2) h1 (txtV_length _) (fun x hx => by obtain ⟨y, _, rfl⟩ := List.mem_map.1 hx; rfl))
            have hslw := hsl.out.keepK h4 (fun g hg => .inr hg)
            have HSL := Lib.hid hslw
            have S2 := Lib.hid h2
            have HW := Lib.hid (And.intro (h4.below (B := w.heap.size) fun i hi => .inl (Nat.lt_of_lt_of_le hi hB'.out.size)) (And.intro h3 hln))
            clear h1 h2 h3 h4 hslw hl1 hl2 hl3 hln hln0 hfr
            go_wp2_with (at_builtin; go_must (refine wpList_append_sl _ rfl (.tmp 73) (.tmp 74) 74 74 rfl 9 i0 (.string ⟨#[]⟩) 1 16 Try.underlying74 hi0 hz0 hz1 hz2 rfl (.slice A1 nd c1) nd (txtV done) rfl HSL.out _ rfl (mss (wt ++ R.data.toList.take n)).1.length (txtV (mss (wt ++ R.data.toList.take n)).1) HSR.out (by have := HW.out.2.2; unfold maxLen; omega) (by have := HW.out.2.2; omega) ?_); intro v3 w3 hs3 hg3 hv3; obtain ⟨A3, c3, rfl, hc3, hm3⟩ := hs3.shape; have H3 := Lib.hid (And.intro hs3 (And.intro hg3 hv3)); clear hs3 hg3 hv3 hc3 hm3)
            go_roundg ((cs.length - (k + 1)) + (if (R.extract n R.size).size = 0 then 0 else 1))
            case measure => have := HE2.out.1; omega
            case rel =>
              obtain ⟨hs3, hg3, hv3⟩ := H3.out
              obtain ⟨hbw, rfl, _⟩ := HW.out
              have hsz2 := HSL.out.lt
              have hB2 : Below w.heap.size w w2 := hB.out.trans hbw
              have hown3 : ∀ g, (Value.slice A3 (nd + (mss (wt ++ R.data.toList.take n)).1.length) c3).ownBlock = some g → w.heap.size ≤ g := own_row' hown.out hB2.size hv3
              refine ⟨k + 1, (if (R.extract n R.size).size = 0 then 0 else 1), wrap64 ((k : Int) + 1), R.extract n R.size, (mss (wt ++ R.data.toList.take n)).2, done ++ (mss (wt ++ R.data.toList.take n)).1, _, A3, c3, rfl, by split <;> omega, rfl, rfl, rfl, ?_, ?_, ?_, ?_, hown3, ?_, ?_, hB2.grown hg3 hB2.size hown.out⟩
              · show _ ↔ _
                split <;> simp_all
              · show _ → _
                intro _
                have := HE2.out.2
                exact ⟨by unfold wrap64; omega, this⟩
              · show _ = _
                rw [List.length_append, hnd.out]
              · show Sl _ _ _ _ _
                rw [show txtV (done ++ (mss (wt ++ R.data.toList.take n)).1) = txtV done ++ txtV (mss (wt ++ R.data.toList.take n)).1 by simp [txtV]]
                exact hs3
              · refine S2.out.renew hg3 (fun i hi => .inr hi) (fun i hi => ?_)
                rcases hi with hi | hi
                · exact ⟨.inl (.inl hi), Nat.lt_of_lt_of_le (by obtain ⟨q, _⟩ := S2.out; exact (q i (.inl hi)).1) hg3.size⟩
                · refine ⟨?_, hs3.lt i hi⟩
                  rcases hv3 with e | e
                  · exact .inl (.inr (e ▸ hi))
                  · right
                    rw [hi] at e
                    have := Option.some.inj e
                    omega
              · show Fits _ _ _ _
                rw [toList_extractN]
                exact HF2.out
          · obtain rfl : k = cs.length := by omega
            clear hz
            go_wp2_with (fail)
            obtain ⟨n, hn1, hn2⟩ : ∃ n : Nat, R.size = n ∧ n ≤ R.size := ⟨R.size, rfl, by omega⟩
            have HE2 := Lib.hid (show (cs.length - (cs.length + 1)) + 0 < (cs.length - cs.length) + e0 ∧ (ByteArray.empty).size = 0 from by
              have : ¬ e0 = 0 := fun h => hR0 (hee.out.1 h)
              exact ⟨by omega, rfl⟩)
            clear hn1 hn2 hee
            refine (feed_post _ _ wt R wr hS.out (by have h3 := hfit.out.2.2.2; simp at h3 ⊢; omega)).mono ?_
            rintro e2 w2 ⟨A2, c2, R2, rfl, h1, h2, h3, h4⟩
            have HF2 : Fits (lsB xs) (done ++ (mss (wt ++ R.data.toList)).1) (mss (wt ++ R.data.toList)).2 (ByteArray.empty).data.toList := by
              have := hfit.out.step R.data.toList.length
              rw [List.take_length, List.drop_length] at this
              exact this
            have HF2 := Lib.hid HF2
            have hl1 := HF2.out.len
            have hl2 := lsB_length xs
            have hl3 := hF.out.2
            have hln : nd + (mss (wt ++ R.data.toList)).1.length ≤ 20 := by rw [List.length_append] at hl1; have := hnd.out; omega
            have HSR := Lib.hid (src_ttab (P := Try.prog) Try.underlying74 (c := c2) h1 (txtV_length _) (fun x hx => by obtain ⟨y, _, rfl⟩ := List.mem_map.1 hx; rfl))
            have hslw := hsl.out.keepK h4 (fun g hg => .inr hg)
            have HSL := Lib.hid hslw
            have S2 := Lib.hid h2
            have HW := Lib.hid (And.intro (h4.below (B := w.heap.size) fun i hi => .inl (Nat.lt_of_lt_of_le hi hB'.out.size)) (And.intro h3 hln))
            clear h1 h2 h3 h4 hslw hl1 hl2 hl3 hln
            go_wp2_with (at_builtin; go_must (refine wpList_append_sl _ rfl (.tmp 73) (.tmp 74) 74 74 rfl 9 i0 (.string ⟨#[]⟩) 1 16 Try.underlying74 hi0 hz0 hz1 hz2 rfl (.slice A1 nd c1) nd (txtV done) rfl HSL.out _ rfl (mss (wt ++ R.data.toList)).1.length (txtV (mss (wt ++ R.data.toList)).1) HSR.out (by have := HW.out.2.2; unfold maxLen; omega) (by have := HW.out.2.2; omega) ?_); intro v3 w3 hs3 hg3 hv3; obtain ⟨A3, c3, rfl, hc3, hm3⟩ := hs3.shape; have H3 := Lib.hid (And.intro hs3 (And.intro hg3 hv3)); clear hs3 hg3 hv3 hc3 hm3)
            go_roundg ((cs.length - (cs.length + 1)) + 0)
            case measure => have := HE2.out.1; omega
            case rel =>
              obtain ⟨hs3, hg3, hv3⟩ := H3.out
              obtain ⟨hbw, rfl, _⟩ := HW.out
              have hsz2 := HSL.out.lt
              have hB2 : Below w.heap.size w w2 := hB.out.trans hbw
              have hown3 : ∀ g, (Value.slice A3 (nd + (mss (wt ++ R.data.toList)).1.length) c3).ownBlock = some g → w.heap.size ≤ g := own_row' hown.out hB2.size hv3
              refine ⟨cs.length + 1, 0, wrap64 ((cs.length : Int) + 1), ByteArray.empty, (mss (wt ++ R.data.toList)).2, done ++ (mss (wt ++ R.data.toList)).1, _, A3, c3, rfl, by omega, rfl, rfl, rfl, ?_, ?_, ?_, ?_, hown3, ?_, ?_, hB2.grown hg3 hB2.size hown.out⟩
              · show _ ↔ _
                have := HE2.out.2
                simp_all
              · show _ → _
                exact fun h => absurd HE2.out.2 h
              · show _ = _
                rw [List.length_append, hnd.out]
              · show Sl _ _ _ _ _
                rw [show txtV (done ++ (mss (wt ++ R.data.toList)).1) = txtV done ++ txtV (mss (wt ++ R.data.toList)).1 by simp [txtV]]
                exact hs3
              · refine S2.out.renew hg3 (fun i hi => .inr hi) (fun i hi => ?_)
                rcases hi with hi | hi
                · exact ⟨.inl (.inl hi), Nat.lt_of_lt_of_le (by obtain ⟨q, _⟩ := S2.out; exact (q i (.inl hi)).1) hg3.size⟩
                · refine ⟨?_, hs3.lt i hi⟩
                  rcases hv3 with e | e
                  · exact .inl (.inr (e ▸ hi))
                  · right
                    rw [hi] at e
                    have := Option.some.inj e
                    omega
              · show Fits _ _ _ _
                exact HF2.out
end Go.Proofs.Ytkdfbmbccopchaa
