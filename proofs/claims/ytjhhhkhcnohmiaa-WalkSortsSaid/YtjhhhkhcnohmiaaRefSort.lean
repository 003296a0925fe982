/- Plain laws of hardtackref02's Sort; the walk of hardtackref01's Same. The walk of hardtackref02's Sort. -/
import Derived.Test.YtjhhhkhcnohmiaaSortM
import Derived.Test.YtjhhhkhcnohmiaaMergeM
import Derived.Test.YtjhhhkhcnohmiaaRefFold
import Derived.Test.YtjhhhkhcnohmiaaWalkP
import Derived.Test.YtjhhhkhcnohmiaaRefLess
import Derived.Test.YtjhhhkhcnohmiaaRefWithin
import Derived.Deep.Cut
import Derived.Deep.CutRange
import Derived.Deep.DeepCutAuto
namespace Go.Proofs.Ytjhhhkhcnohmiaa
open Go.RowKit Go.Lib

section
variable {α κ : Type} [DecidableEq κ] (key : α → κ) (c : κ → κ → Int)
/-- One more in a row that has each key once. -/
def rIns (n : α) : List α → List α
  | [] => [n]
  | y :: l => if c (key y) (key n) < 0 then y :: rIns n l else if key y = key n then y :: l else n :: y :: l
variable {key c}
theorem rIns_len (n : α) : ∀ l : List α, (rIns key c n l).length ≤ l.length + 1
  | [] => by simp [rIns]
  | y :: l => by
    have := rIns_len n l
    unfold rIns
    split
    · simp; omega
    · split <;> simp
theorem rIns_mem (n : α) {P : α → Prop} (hn : P n) : ∀ l : List α, (∀ y ∈ l, P y) → ∀ y ∈ rIns key c n l, P y
  | [], _, y, hy => by rw [List.mem_singleton.1 hy]; exact hn
  | z :: l, h, y, hy => by
    unfold rIns at hy
    split at hy
    · rcases List.mem_cons.1 hy with rfl | hy
      · exact h _ (by simp)
      · exact rIns_mem n hn l (fun y hy => h y (by simp [hy])) y hy
    · split at hy
      · exact h y hy
      · rcases List.mem_cons.1 hy with rfl | hy
        · exact hn
        · exact h y hy
/-- Where the walk over the row stops. -/
theorem rIns_at (n : α) : ∀ (l : List α) (k : Nat), k ≤ l.length → (∀ y ∈ l.take k, c (key y) (key n) < 0) → (∀ y, l[k]? = some y → ¬ c (key y) (key n) < 0) →
    rIns key c n l = if (∃ y, l[k]? = some y ∧ key y = key n) then l else l.take k ++ n :: l.drop k
  | [], k, hk, _, _ => by
    have : k = 0 := by simpa using hk
    subst this
    simp [rIns]
  | y :: l, 0, _, _, h2 => by
    have h3 := h2 y rfl
    unfold rIns
    rw [if_neg h3]
    by_cases he : key y = key n
    · rw [if_pos he, if_pos ⟨y, rfl, he⟩]
    · rw [if_neg he, if_neg (by rintro ⟨z, hz, hz2⟩; simp at hz; subst hz; exact he hz2)]
      rfl
  | y :: l, k + 1, hk, h1, h2 => by
    have ih := rIns_at n l k (by simpa using hk) (fun z hz => h1 z (by simp [hz])) (fun z hz => h2 z (by simpa using hz))
    unfold rIns
    rw [if_pos (h1 y (by simp)), ih]
    simp only [List.getElem?_cons_succ, List.take_succ_cons, List.drop_succ_cons, List.cons_append]
    split <;> rfl
theorem dd_ins (T : TotC c) (n : α) : ∀ (S : List α) (pv : Option κ), SrtK key c S → (∀ k, pv = some k → ∀ y ∈ S, ¬ c (key y) k < 0) →
    ((∀ k, pv = some k → c k (key n) < 0) → ddF key pv (insK key c n S) = rIns key c n (ddF key pv S)) ∧ (pv = some (key n) → ddF key pv (insK key c n S) = ddF key pv S)
  | [], pv, _, _ => by
    refine ⟨fun h => ?_, fun h => ?_⟩
    · have : pv ≠ some (key n) := fun e => T.refl_not _ (h _ e)
      simp [insK, ddF, rIns, this]
    · subst h; simp [insK, ddF]
  | y :: l, pv, hS, hp => by
    have hSl : SrtK key c l := (List.pairwise_cons.1 hS).2
    have hSy : ∀ z ∈ l, ¬ c (key z) (key y) < 0 := (List.pairwise_cons.1 hS).1
    have ih := dd_ins T n l (some (key y)) hSl (fun k hk z hz => by cases hk; exact hSy z hz)
    by_cases h1 : c (key n) (key y) < 0
    · have hne : key n ≠ key y := fun e => by rw [e] at h1; exact T.refl_not _ h1
      have e1 : insK key c n (y :: l) = n :: y :: l := by unfold insK; rw [if_pos h1]
      have e2 : ddF key (some (key n)) (y :: l) = y :: ddF key (some (key y)) l := by
        conv => lhs; unfold ddF
        rw [if_neg (by simpa using hne)]
      have h3 : ¬ c (key y) (key n) < 0 := T.lt_not h1
      refine ⟨fun h => ?_, fun h => ?_⟩
      · have hpn : pv ≠ some (key n) := fun e => T.refl_not _ (h _ e)
        have hpy : pv ≠ some (key y) := fun e => T.lt_not h1 (h _ e)
        rw [e1]
        conv => lhs; unfold ddF
        rw [if_neg hpn, e2]
        have e3 : ddF key pv (y :: l) = y :: ddF key (some (key y)) l := by
          conv => lhs; unfold ddF
          rw [if_neg hpy]
        rw [e3]
        unfold rIns
        rw [if_neg h3, if_neg (Ne.symm hne)]
      · rw [e1]
        conv => lhs; unfold ddF
        rw [if_pos h, e2]
        subst h
        exact e2.symm
    · have e1 : insK key c n (y :: l) = y :: insK key c n l := by
        conv => lhs; unfold insK
        rw [if_neg h1]
      rw [e1]
      by_cases he : key y = key n
      · have hB := ih.2 (by rw [he])
        have e2 : ddF key pv (y :: insK key c n l) = ddF key pv (y :: l) := by
          unfold ddF
          rw [hB]
        rw [e2]
        refine ⟨fun h => ?_, fun _ => rfl⟩
        have hpy : pv ≠ some (key y) := fun e => by have := h _ e; rw [he] at this; exact T.refl_not _ this
        have e3 : ddF key pv (y :: l) = y :: ddF key (some (key y)) l := by
          conv => lhs; unfold ddF
          rw [if_neg hpy]
        rw [e3]
        unfold rIns
        rw [if_neg (by rw [he]; exact T.refl_not _), if_pos he]
      · have hlt : c (key y) (key n) < 0 := by
          have a1 := T.anti (key y) (key n)
          have a2 : c (key y) (key n) ≠ 0 := fun e => he ((T.zero _ _).1 e)
          omega
        refine ⟨fun h => ?_, fun h => ?_⟩
        · have hA := ih.1 (fun k hk => by cases hk; exact hlt)
          by_cases hpy : pv = some (key y)
          · have e2 : ∀ t, ddF key pv (y :: t) = ddF key (some (key y)) t := fun t => by
              conv => lhs; unfold ddF
              rw [if_pos hpy]
            rw [e2, e2, hA]
          · have e2 : ∀ t, ddF key pv (y :: t) = y :: ddF key (some (key y)) t := fun t => by
              conv => lhs; unfold ddF
              rw [if_neg hpy]
            rw [e2, e2, hA]
            conv => rhs; unfold rIns
            rw [if_pos hlt]
        · exact absurd hlt (hp _ h y (by simp))
theorem dd_fold (T : TotC c) : ∀ (xs S : List α), SrtK key c S → xs.foldl (fun D n => rIns key c n D) (ddF key none S) = ddF key none (xs.foldl (fun S x => insK key c x S) S)
  | [], _, _ => rfl
  | n :: xs, S, hS => by
    have h := (dd_ins T n S none hS (fun k hk => by cases hk)).1 (fun k hk => by cases hk)
    show xs.foldl _ (rIns key c n (ddF key none S)) = _
    rw [← h]
    exact dd_fold T xs _ (insK_srt T hS)
end
theorem sortN_fold (l : List Bs) : (l.filter isName).foldl (fun D n => rIns ris cmpL n D) [] = sortN l := by
  have := dd_fold (key := ris) cmpL_tot (l.filter isName) [] List.Pairwise.nil
  exact this
theorem same_ris {a b : Bs} (ha : isName a = true) (hb : isName b = true) : sameB a b = decide (ris a = ris b) := by
  rw [Bool.eq_iff_iff, same_low ha hb, decide_eq_true_iff, ris_low ha, ris_low hb]
  exact ⟨fun h => by rw [h], fun h => List.reverse_inj.1 h⟩

/-- A slice that reads as values of one cell, as what is appended. -/
theorem src_tt {P : Program} {tx e' : TypeId} (hk : P.underlying tx = some (.slice e')) {w : World} {A : Option Addr} {xs : List Value} (h : TTab w A xs) (h1 : ∀ u ∈ xs, u.oneCell' = true) (c : Nat) : Src P 1 tx (.slice A xs.length c) xs.length xs w := by
  rcases List.eq_nil_or_concat xs with rfl | ⟨_, _, hx⟩
  · cases A with
    | none => exact Src.ofNil w hk c
    | some a => exact Src.ofSlice w hk a 0 c [] rfl (fun j u hu => by simp at hu) h1
  · have hp : 0 < xs.length := by rw [hx]; simp
    obtain ⟨b, o, rfl, _, hc⟩ := h hp
    refine Src.ofSlice w hk ⟨b, o, none⟩ xs.length c xs (by simp) (fun j u hu => ?_) h1
    rw [Go.WideShapes.add_plain]
    exact hc j u hu
theorem strs_one (xs : List Bs) : ∀ u ∈ strs xs, u.oneCell' = true := by
  intro u hu
  obtain ⟨x, _, rfl⟩ := List.mem_map.1 hu
  rfl
/-- The first i of a slice. -/
theorem head_run {P : Program} {t : TypeId} (ht : P.underlying t = some (.slice (P.elem t))) (hs : ∀ w, (sizeOf (P.elem t)).run P w = .ok 1 w) {w : World} {A : Option Addr} {xs : List Value} (c i : Nat) (h : TTab w A xs) (hi : i ≤ xs.length) (hc : xs.length ≤ c) :
    ∃ A', (∀ W : World, (Instr.slice t (.slice A xs.length c) none (some (.int .i64 (i : Int))) none).run P W = .ok (.slice A' (xs.take i).length c) W) ∧ TTab w A' (xs.take i) := by
  refine ⟨if c = 0 then A else A.map (·.add 0), fun W => ?_, fun hn => ?_⟩
  · rw [run_slice_h (P := P) W t A xs.length c ht .i64 (i : Int) (by omega) (by omega)]
    simp [sliced, List.length_take, Nat.min_eq_left hi, hs, Result.andThen]
  · have hp : 0 < xs.length := by rw [List.length_take] at hn; omega
    obtain ⟨b, o, hA, hlt, hcc⟩ := h hp
    rw [if_neg (by omega), hA]
    refine ⟨b, o, ?_, hlt, fun j u hu => ?_⟩
    · show some (Addr.add ⟨b, o, none⟩ 0) = _
      unfold Addr.add
      simp
    have hj : j < i := by
      have := (List.getElem?_eq_some_iff.1 hu).1
      rw [List.length_take] at this; omega
    rw [List.getElem?_take_of_lt hj] at hu
    exact hcc j u hu

set_option maxRecDepth 100000 in
set_option maxHeartbeats 1000000 in
theorem rSame_any (a b : ByteArray) (ha : a.size ≤ maxLen) (hb : b.size ≤ maxLen) (w : World) : Calls Try.prog 71 #[.string a, .string b] w fun e w' => e = .returned (.bool (sameB a.data.toList b.data.toList)) ∧ Below w.heap.size w w' := by
  have HA := Lib.hid (fun W => rCheck_any a ha W)
  have HB := Lib.hid (fun W => rCheck_any b hb W)
  unfold maxLen at ha hb
  have HF := Lib.hid (fun W => rFold_any a (by omega) W)
  have HG := Lib.hid (fun W => rFold_any b (by omega) W)
  obtain ⟨F, hF⟩ : ∃ F : ByteArray, (⟨(foldB a.data.toList).toArray⟩ : ByteArray) = F := ⟨_, rfl⟩
  obtain ⟨G, hG⟩ : ∃ F : ByteArray, (⟨(foldB b.data.toList).toArray⟩ : ByteArray) = F := ⟨_, rfl⟩
  rw [hF] at HF
  rw [hG] at HG
  obtain ⟨r, hr⟩ : ∃ r, sameB a.data.toList b.data.toList = r := ⟨_, rfl⟩
  rw [hr]
  unfold sameB at hr
  rcases chk_cases a.data.toList with ⟨ha1, ha2⟩ | ⟨ha1, ha2⟩
  · rw [ha2] at HA
    rcases chk_cases b.data.toList with ⟨hb1, hb2⟩ | ⟨hb1, hb2⟩
    · rw [hb2] at HB
      have hr2 : (F.toList == G.toList) = r := by
        rw [ha1, hb1] at hr
        rw [← hr, ByteArray.toList_eq, ByteArray.toList_eq, ← hF, ← hG]
        simp only [Bool.true_and]
        by_cases he : foldB a.data.toList = foldB b.data.toList
        · have h2 := congrArg List.length he
          rw [foldB_length, foldB_length] at h2
          simp [he, h2]
        · simp [he]
      clear ha1 ha2 hb1 hb2 hr hF hG ha hb
      go_enter Try.func71, Try.ntmps71
      go_wp2_with (fail)
      with_reducible refine (HA.out _).mono ?_
      rintro e w1 ⟨rfl, hb⟩
      have B1 := Lib.hid hb
      clear hb
      go_wp2_with (fail)
      with_reducible refine (HB.out _).mono ?_
      rintro e w2 ⟨rfl, hb⟩
      have B2 := Lib.hid (B1.out.trans (hb.mono B1.out.size))
      clear hb
      go_wp2_with (fail)
      with_reducible refine (HF.out _).mono ?_
      rintro e w3 ⟨rfl, hb⟩
      have B3 := Lib.hid (B2.out.trans (hb.mono B2.out.size))
      clear hb
      go_wp2_with (fail)
      with_reducible refine (HG.out _).mono ?_
      rintro e w4 ⟨rfl, hb⟩
      have B4 := Lib.hid (B3.out.trans (hb.mono B3.out.size))
      clear hb
      go_wp2_with (fail)
      go_ret
      exact ⟨rfl, B4.out⟩
    · rw [hb2] at HB
      have hrf : r = false := by rw [← hr, hb1]; simp
      subst hrf
      clear ha1 ha2 hb1 hb2 hr hF hG ha hb
      go_enter Try.func71, Try.ntmps71
      go_wp2_with (fail)
      with_reducible refine (HA.out _).mono ?_
      rintro e w1 ⟨rfl, hb⟩
      have B1 := Lib.hid hb
      clear hb
      go_wp2_with (fail)
      with_reducible refine (HB.out _).mono ?_
      rintro e w2 ⟨rfl, hb⟩
      have B2 := Lib.hid (B1.out.trans (hb.mono B1.out.size))
      clear hb
      go_wp2_with (fail)
      go_ret
      exact ⟨rfl, B2.out⟩
  · rw [ha2] at HA
    have hrf : r = false := by rw [← hr, ha1]; simp
    subst hrf
    clear ha1 ha2 hr hF hG ha hb
    go_enter Try.func71, Try.ntmps71
    go_wp2_with (fail)
    with_reducible refine (HA.out _).mono ?_
    rintro e w1 ⟨rfl, hb⟩
    have B1 := Lib.hid hb
    clear hb
    go_wp2_with (fail)
    go_ret
    exact ⟨rfl, B1.out⟩
end Go.Proofs.Ytjhhhkhcnohmiaa

namespace Go.Proofs.Ytjhhhkhcnohmiaa
open Go.RowKit Go.Lib

set_option maxRecDepth 100000 in
set_option maxHeartbeats 8000000 in
theorem rSort_any (xs : List ByteArray) (A : Option Addr) (c : Nat) (w : World) (hA : TTab w A (xs.map Value.string)) (hx : ∀ x ∈ xs, x.size ≤ 1000000) (hl : xs.length ≤ 1000) :
    Calls Try.prog 45 #[.slice A xs.length c] w (CollPost (sortN (xs.map fun x => x.data.toList)) w) := by
  obtain ⟨i0, hi0, hz0, hz1, hz2⟩ := info_parts info_str
  have hszf := fun w : World => (show (sizeOf 9).run Try.prog w = .ok 1 w from by rfl)
  have hlI : (xs.length : Int) ≤ 1000 := by omega
  have HX := Lib.hid (And.intro hx hl)
  have HA := Lib.hid hA
  have HSZ := Lib.hid hszf
  clear hx hA hl hszf
  rw [← sortN_fold]
  go_enter Try.func45, Try.ntmps45
  go_wp2_with (fail)
  go_loopg [3, 5, 6, 7, 8, 11] xs.length (fun gg v3 _ _ _ _ v11 wr => ∃ (k : Nat) (D : List Bs), v11 = .int .i64 (k : Int) ∧ Aside (gg + k = xs.length ∧ D.length ≤ k) ∧ Aside (Sl wr 1 v3 D.length (strs D)) ∧ Aside (∀ g, v3.ownBlock = some g → w.heap.size ≤ g) ∧ Aside (D = (((xs.take k).map fun x => x.data.toList).filter isName).foldl (fun D n => rIns ris cmpL n D) []) ∧ Aside (∀ y ∈ D, isName y = true) ∧ Aside (Below w.heap.size w wr))
  case atStart =>
    exact ⟨0, [], rfl, ⟨by omega, Nat.zero_le _⟩, Sl.nil _ _, (show Aside _ from fun g hg => by simp [Value.ownBlock] at hg), rfl, (show Aside _ from fun y hy => absurd hy List.not_mem_nil), Below.refl _ _⟩
  case round =>
    obtain ⟨V, rfl⟩ : ∃ V, V = wr := ⟨_, rfl⟩
    obtain ⟨k, D, rfl, hg, hS, hO, hD, hNm, hB⟩ := hrel
    obtain ⟨A3, c3, rfl, hc1, hc2⟩ := hS.out.shape
    have HT := Lib.hid (And.intro (sl_tt hS.out) hc1)
    have hDk : (D.length : Int) ≤ 1000 := by have := hg.out; omega
    by_cases hlt : k < xs.length
    · obtain ⟨b0, o, rfl, hal, hac⟩ := HA.out (by rw [List.length_map]; omega)
      obtain ⟨x, hxk⟩ : ∃ x, xs[k]? = some x := ⟨_, List.getElem?_eq_getElem hlt⟩
      have a0 : V.cell? ⟨b0, o + k, none⟩ = some (.string x) := (hB.out.cell (p := ⟨b0, o + k, none⟩) hal).trans (hac k _ (by rw [List.getElem?_map, hxk]; rfl))
      have hltI : (k : Int) < (xs.length : Int) := by omega
      have hxm : x ∈ xs := List.mem_of_getElem? hxk
      have hxs : x.size ≤ maxLen := by have := HX.out.1 x hxm; unfold maxLen; omega
      have HC := Lib.hid (fun W => rCheck_any x hxs W)
      have htk : (xs.take (k + 1)).map (fun x => x.data.toList) = ((xs.take k).map fun x => x.data.toList) ++ [x.data.toList] := by
        obtain ⟨q1, q2⟩ := List.getElem?_eq_some_iff.1 hxk
        rw [List.take_succ_eq_append_getElem q1, q2, List.map_append]; rfl
      rcases chk_cases x.data.toList with ⟨hn1, hn2⟩ | ⟨hn1, hn2⟩
      · rw [hn2] at HC
        have hDn : rIns ris cmpL x.data.toList D = (((xs.take (k + 1)).map fun x => x.data.toList).filter isName).foldl (fun D n => rIns ris cmpL n D) [] := by
          rw [htk, List.filter_append, List.foldl_append, ← hD.out]
          simp [hn1]
        have HN := Lib.hid (And.intro hn1 (And.intro hDn (And.intro hxs hlt)))
        clear hac hxk hxm hn2 htk hn1 hxs hDn hlt
        go_wp2_with (fail)
        refine (HC.out _).mono ?_
        rintro e w1 ⟨rfl, hb⟩
        have B1 := Lib.hid hb
        clear hb
        go_upto_region 6 with (fail)
        go_cut [6, 7] (fun v6 v7 wx => v6 = .int .i64 0 ∧ wx = w1)
        case first =>
          go_wp2_with (fail)
          go_meet
          case rel => exact ⟨rfl, rfl⟩
        case rest =>
        obtain ⟨rfl, hw0⟩ := hcut
        have hw1 := hw0.symm
        subst hw1
        go_step
        go_step
        go_cut [6] (fun v6 wx => ∃ at' : Nat, v6 = .int .i64 (at' : Int) ∧ Aside (at' ≤ D.length ∧ (∀ y ∈ D.take at', cmpL (ris y) (ris x.data.toList) < 0) ∧ ∀ y, D[at']? = some y → ¬ cmpL (ris y) (ris x.data.toList) < 0) ∧ Aside (Below V.heap.size V wx))
        case first =>
          go_wp2_with (fail)
          go_loopg [6] D.length (fun gi v6 wi => ∃ at' : Nat, v6 = .int .i64 (at' : Int) ∧ Aside (gi + at' = D.length ∧ ∀ y ∈ D.take at', cmpL (ris y) (ris x.data.toList) < 0) ∧ Aside (Below V.heap.size V wi))
          case atStart => exact ⟨0, rfl, ⟨rfl, fun y hy => by simp at hy⟩, B1.out⟩
          case round =>
            obtain ⟨at', rfl, hat, hBi⟩ := hrel
            have hatI : (at' : Int) ≤ 1000 := by have := hat.out.1; have := hg.out; omega
            by_cases hlt2 : at' < D.length
            · obtain ⟨b1, o1, rfl, hal1, hac1⟩ := HT.out.1 (by rw [strs_len]; omega)
              obtain ⟨y, hy⟩ : ∃ y, D[at']? = some y := ⟨_, List.getElem?_eq_getElem hlt2⟩
              have a1 : wr.cell? ⟨b1, o1 + at', none⟩ = some (.string ⟨y.toArray⟩) := (hBi.out.cell (p := ⟨b1, o1 + at', none⟩) hal1).trans (hac1 at' _ (strs_get hy))
              have hltI2 : (at' : Int) < (D.length : Int) := by omega
              have hyn := hNm.out y (List.mem_of_getElem? hy)
              obtain ⟨Y, hY⟩ : ∃ Y : ByteArray, (⟨y.toArray⟩ : ByteArray) = Y := ⟨_, rfl⟩
              have hYl : Y.data.toList = y := by rw [← hY]
              have hYs : Y.size ≤ maxLen := by
                have h1 := ((isName_iff _).1 hyn).1
                rw [← hYl] at h1
                simp at h1
                unfold maxLen; omega
              rw [hY] at a1
              have HL := Lib.hid (fun W => rLess_any Y x hYs HN.out.2.2.1 W)
              rw [hYl, show lessP y x.data.toList = decide (cmpL (ris y) (ris x.data.toList) < 0) from by unfold lessP; rw [hyn, HN.out.1]; rfl] at HL
              have HY := Lib.hid (And.intro hy hlt2)
              by_cases hc : cmpL (ris y) (ris x.data.toList) < 0
              · rw [decide_eq_true hc] at HL
                have HCC := Lib.hid hc
                clear hac1 hy hyn hY hYl hYs hc hlt2
                go_wp2_with (fail)
                refine (HL.out _).mono ?_
                rintro e w2 ⟨rfl, hb⟩
                have B2 := Lib.hid (hBi.out.trans (hb.mono hBi.out.size))
                clear hb
                go_wp2_with (fail)
                go_roundg (D.length - (at' + 1))
                case measure => have := hat.out.1; have := HY.out.2; omega
                case rel =>
                  refine ⟨at' + 1, by go_num, ⟨by have := HY.out.2; omega, fun z hz => ?_⟩, B2.out⟩
                  obtain ⟨q1, q2⟩ := List.getElem?_eq_some_iff.1 HY.out.1
                  rw [List.take_succ_eq_append_getElem q1, q2] at hz
                  rcases List.mem_append.1 hz with h | h
                  · exact hat.out.2 z h
                  · rw [List.mem_singleton.1 h]; exact HCC.out
              · rw [decide_eq_false hc] at HL
                have HCC := Lib.hid hc
                clear hac1 hy hyn hY hYl hYs hc hlt2
                go_wp2_with (fail)
                refine (HL.out _).mono ?_
                rintro e w2 ⟨rfl, hb⟩
                have B2 := Lib.hid (hBi.out.trans (hb.mono hBi.out.size))
                clear hb
                go_wp2_with (fail)
                go_meet
                case rel => exact ⟨at', rfl, ⟨Nat.le_of_lt HY.out.2, hat.out.2, fun z hz => by rw [HY.out.1] at hz; cases hz; exact HCC.out⟩, B2.out⟩
            · have hltI2 : ¬ (at' : Int) < (D.length : Int) := by omega
              have HE := Lib.hid (show at' = D.length by have := hat.out.1; omega)
              clear hlt2
              go_wp2_with (fail)
              go_meet
              case rel => exact ⟨at', rfl, ⟨Nat.le_of_eq HE.out, hat.out.2, fun z hz => by rw [HE.out, List.getElem?_eq_none (Nat.le_refl _)] at hz; cases hz⟩, hBi.out⟩
        case rest =>
        obtain ⟨at', rfl, hat, hBw⟩ := hcut
        obtain ⟨w2, rfl⟩ : ∃ w2, w2 = wc := ⟨_, rfl⟩
        have hatI : (at' : Int) ≤ 1000 := by have := hat.out.1; have := hg.out; omega
        obtain ⟨s, hs⟩ : ∃ s, ((D[at']?).any fun y => decide (ris y = ris x.data.toList)) = s := ⟨_, rfl⟩
        go_upto_region 9 with (fail)
        go_cut [7] (fun v7 wx => v7 = .bool s ∧ Aside (Below V.heap.size V wx))
        case first =>
          by_cases hlt2 : at' < D.length
          · obtain ⟨b1, o1, rfl, hal1, hac1⟩ := HT.out.1 (by rw [strs_len]; omega)
            obtain ⟨y, hy⟩ : ∃ y, D[at']? = some y := ⟨_, List.getElem?_eq_getElem hlt2⟩
            have a1 : w2.cell? ⟨b1, o1 + at', none⟩ = some (.string ⟨y.toArray⟩) := (hBw.out.cell (p := ⟨b1, o1 + at', none⟩) hal1).trans (hac1 at' _ (strs_get hy))
            have hltI2 : (at' : Int) < (D.length : Int) := by omega
            have hyn := hNm.out y (List.mem_of_getElem? hy)
            obtain ⟨Y, hY⟩ : ∃ Y : ByteArray, (⟨y.toArray⟩ : ByteArray) = Y := ⟨_, rfl⟩
            have hYl : Y.data.toList = y := by rw [← hY]
            have hYs : Y.size ≤ maxLen := by
              have h1 := ((isName_iff _).1 hyn).1
              rw [← hYl] at h1
              simp at h1
              unfold maxLen; omega
            rw [hY] at a1
            have HL := Lib.hid (fun W => rSame_any Y x hYs HN.out.2.2.1 W)
            rw [hYl, same_ris hyn HN.out.1] at HL
            rw [hy] at hs
            have hs' : decide (ris y = ris x.data.toList) = s := hs
            rw [hs'] at HL
            clear hac1 hy hyn hY hYl hYs hlt2 hs hs'
            go_wp2_with (fail)
            refine (HL.out _).mono ?_
            rintro e w3 ⟨rfl, hb⟩
            have B2 := Lib.hid (hBw.out.trans (hb.mono hBw.out.size))
            clear hb
            go_wp2_with (fail)
            go_meet
            case rel => exact ⟨rfl, B2.out⟩
          · have hltI2 : ¬ (at' : Int) < (D.length : Int) := by omega
            have hsf : s = false := by rw [← hs, List.getElem?_eq_none (by omega)]; rfl
            subst hsf
            clear hlt2 hs
            go_wp2_with (fail)
            go_meet
            case rel => exact ⟨rfl, hBw.out⟩
        case rest =>
        obtain ⟨rfl, hBx⟩ := hcut
        obtain ⟨w3, rfl⟩ : ∃ w3, w3 = wc := ⟨_, rfl⟩
        have hins := rIns_at (key := ris) (c := cmpL) x.data.toList D at' hat.out.1 hat.out.2.1 hat.out.2.2
        cases s with
        | true =>
          have hD2 : rIns ris cmpL x.data.toList D = D := by
            rw [hins, if_pos]
            cases hy : D[at']? with
            | none => rw [hy] at hs; cases hs
            | some y => rw [hy] at hs; exact ⟨y, rfl, of_decide_eq_true hs⟩
          have HD2 := Lib.hid hD2
          clear hins hs hD2
          go_wp2_with (fail)
          go_roundg (xs.length - (k + 1))
          case measure => have := hg.out; have := HN.out.2.2.2; omega
          case rel =>
            refine ⟨k + 1, D, by go_num, (by show _ ∧ _; have := hg.out; have := HN.out.2.2.2; omega), hS.out.below hBx.out hS.out.lt, hO, ?_, hNm, hB.out.trans (hBx.out.mono hB.out.size)⟩
            show D = _
            rw [← HN.out.2.1]; exact HD2.out.symm
        | false =>
          have hD2 : rIns ris cmpL x.data.toList D = D.take at' ++ x.data.toList :: D.drop at' := by
            rw [hins, if_neg]
            rintro ⟨y, hy, he⟩
            rw [hy] at hs
            rw [show Option.any (fun y => decide (ris y = ris x.data.toList)) (some y) = decide (ris y = ris x.data.toList) from rfl, decide_eq_true he] at hs
            cases hs
          have hlen : (strs D).length = D.length := strs_len D
          have hT3 := HT.out.1.below hBx.out
          obtain ⟨A4, hrun4, hT4⟩ := head_run (P := Try.prog) (t := 45) Try.underlying45 HSZ.out c3 at' hT3 (by rw [hlen]; exact hat.out.1) (by rw [hlen]; exact HT.out.2)
          obtain ⟨A5, c5, hrun5, hT5⟩ := tail_run (P := Try.prog) (t := 45) Try.underlying45 HSZ.out c3 at' hT3 (by rw [hlen]; exact hat.out.1) (by rw [hlen]; exact HT.out.2)
          have ht4 : (strs D).take at' = strs (D.take at') := by simp [strs, List.map_take]
          have ht5 : (strs D).drop at' = strs (D.drop at') := by simp [strs, List.map_drop]
          have hl4 : (strs (D.take at')).length = at' := by rw [strs_len, List.length_take]; have := hat.out.1; omega
          have hl5 : (strs (D.drop at')).length = D.length - at' := by rw [strs_len, List.length_drop]
          rw [ht4] at hrun4 hT4
          rw [ht5] at hrun5 hT5
          rw [hl4, hlen] at hrun4
          rw [hl5, hlen] at hrun5
          have hs4 := fun W (h : Below w3.heap.size w3 W) => src_tt (P := Try.prog) (tx := 45) Try.underlying45 (hT4.below h) (strs_one _) c3
          have hs5 := fun W (h : Below w3.heap.size w3 W) => src_tt (P := Try.prog) (tx := 45) Try.underlying45 (hT5.below h) (strs_one _) c5
          rw [hl4] at hs4
          rw [hl5] at hs5
          have HR := Lib.hid (And.intro hs4 (And.intro hs5 (And.intro hD2 (And.intro hat.out.1 hg.out.2))))
          have hk1000 : k ≤ 1000 := by have := HX.out.2; have := HN.out.2.2.2; omega
          have HK := Lib.hid hk1000
          clear hins hs hD2 hT3 hT4 hT5 ht4 ht5 hl4 hl5 hlen hs4 hs5 hk1000
          go_wp2_with (at_builtin; first
            | (refine wpList_append_sl _ rfl (.tmp 45) (.tmp 48) 45 45 rfl 9 i0 (.string ⟨#[]⟩) 1 16 Try.underlying45 hi0 hz0 hz1 hz2 rfl (.slice (some ⟨w3.heap.size, 0, none⟩) 0 0) 0 [] rfl (sl_empty w3 _) _ rfl at' (strs (D.take at')) (HR.out.1 _ ((Below.refl _ _).alloc (Nat.le_refl _) _)) (by have := HR.out.2.2.2; have := HK.out; unfold maxLen; omega) (by have := HR.out.2.2.2; have := HK.out; omega) ?_; intro v6 w6 hs6 hg6 hv6; have HB6 : Hid (Below w3.heap.size w3 w6 ∧ ∀ g, v6.ownBlock = some g → w3.heap.size ≤ g) := Lib.hid ⟨((Below.refl _ _).alloc (Nat.le_refl _) _).grown hg6 (by simp) (fun g hg => by simp [Value.ownBlock] at hg; omega), own_from (fun g hg => by simp [Value.ownBlock] at hg; omega) (by simp) hv6⟩; have H6 : Hid (Sl w6 1 v6 at' (strs (D.take at'))) := Lib.hid (by simpa using hs6); clear hs6 hg6 hv6)
            | (refine wpList_append_sl _ rfl (.tmp 50) (.tmp 52) 45 45 rfl 9 i0 (.string ⟨#[]⟩) 1 16 Try.underlying45 hi0 hz0 hz1 hz2 rfl v6 at' (strs (D.take at')) rfl (H6.out.alloc _) _ rfl 1 [.string x] (src_new (P := Try.prog) Try.underlying45 w6 _ _ rfl) (by have := HR.out.2.2.2; have := HK.out; unfold maxLen; omega) (by have := HR.out.2.2.2; have := HK.out; omega) ?_; intro v7 w7 hs7 hg7 hv7; have HB7 : Hid (Below w3.heap.size w3 w7 ∧ ∀ g, v7.ownBlock = some g → w3.heap.size ≤ g) := Lib.hid ⟨(HB6.out.1.alloc HB6.out.1.size _).grown hg7 (by have := HB6.out.1.size; simp; omega) HB6.out.2, own_from HB6.out.2 (by have := HB6.out.1.size; simp; omega) hv7⟩; have H7 := Lib.hid hs7; clear hs7 hg7 hv7)
            | (refine wpList_append_sl _ rfl (.tmp 54) (.tmp 57) 45 45 rfl 9 i0 (.string ⟨#[]⟩) 1 16 Try.underlying45 hi0 hz0 hz1 hz2 rfl v7 (at' + 1) (strs (D.take at') ++ [.string x]) rfl H7.out _ rfl (D.length - at') (strs (D.drop at')) (HR.out.2.1 _ HB7.out.1) (by have := HR.out.2.2.2; have := HK.out; unfold maxLen; omega) (by have := HR.out.2.2.2; have := HK.out; omega) ?_; intro v8 w8 hs8 hg8 hv8; have HB8 : Hid (Below w3.heap.size w3 w8 ∧ ∀ g, v8.ownBlock = some g → w3.heap.size ≤ g) := Lib.hid ⟨HB7.out.1.grown hg8 HB7.out.1.size HB7.out.2, own_from HB7.out.2 HB7.out.1.size hv8⟩; have H8 := Lib.hid hs8; clear hs8 hg8 hv8))
          go_roundg (xs.length - (k + 1))
          case measure => have := hg.out; have := HN.out.2.2.2; omega
          case rel =>
            have hxe : (⟨x.data.toList.toArray⟩ : ByteArray) = x := by cases x; simp
            have hDl : (rIns ris cmpL x.data.toList D).length = at' + 1 + (D.length - at') := by
              rw [HR.out.2.2.1]
              have := HR.out.2.2.2.1
              simp
              omega
            have hDs : strs (rIns ris cmpL x.data.toList D) = strs (D.take at') ++ [.string x] ++ strs (D.drop at') := by
              rw [HR.out.2.2.1]
              simp [strs]
            refine ⟨k + 1, rIns ris cmpL x.data.toList D, by go_num, (by show _ ∧ _; have := hg.out; have := HN.out.2.2.2; have := rIns_len (key := ris) (c := cmpL) x.data.toList D; omega), ?_, (show Aside _ from fun g hg => Nat.le_trans (Nat.le_trans hB.out.size hBx.out.size) (HB8.out.2 g hg)), HN.out.2.1, rIns_mem (P := fun y => isName y = true) x.data.toList HN.out.1 D hNm.out, hB.out.trans ((hBx.out.trans (HB8.out.1.mono hBx.out.size)).mono hB.out.size)⟩
            show Sl _ _ _ _ _
            rw [hDl, hDs]
            exact H8.out
      · rw [hn2] at HC
        have hDn : D = (((xs.take (k + 1)).map fun x => x.data.toList).filter isName).foldl (fun D n => rIns ris cmpL n D) [] := by
          rw [htk, List.filter_append, List.foldl_append, ← hD.out]
          simp [hn1]
        have HN := Lib.hid (And.intro hDn hlt)
        clear hac hxk hxm hn2 htk hn1 hxs hDn hlt
        go_wp2_with (fail)
        refine (HC.out _).mono ?_
        rintro e w1 ⟨rfl, hb⟩
        have B1 := Lib.hid hb
        clear hb
        go_wp2_with (fail)
        go_roundg (xs.length - (k + 1))
        case measure => have := hg.out; have := HN.out.2; omega
        case rel =>
          exact ⟨k + 1, D, by go_num, (by show _ ∧ _; have := hg.out; have := HN.out.2; omega), hS.out.below B1.out hS.out.lt, hO, HN.out.1, hNm, hB.out.trans (B1.out.mono hB.out.size)⟩
    · obtain rfl : k = xs.length := by have := hg.out; omega
      have hD0 := hD.out
      rw [List.take_length] at hD0
      have HD0 := Lib.hid (And.intro hD0 (And.intro hS.out (And.intro hO.out hB.out)))
      clear hlt hD0 hD hS hO hB
      go_wp2_with (fail)
      go_ret
      obtain ⟨hD0, hS, hO, hB⟩ := HD0.out
      rw [← hD0]
      exact ⟨A3, c3, rfl, hS, hO, hB⟩
end Go.Proofs.Ytjhhhkhcnohmiaa
