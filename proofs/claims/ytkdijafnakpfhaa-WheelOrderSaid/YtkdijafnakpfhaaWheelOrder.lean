/- The walk of hardtacklaw35.WheelOrder. Conditions: none. -/
import Derived.Test.YtkdijafnakpfhaaWheelZ
import Derived.Deep.DeepCutAuto
import Derived.Deep.CutBlock
import Derived.Deep.QuietTactic
import Derived.BigQuiet
namespace Go.Proofs.Ytkdijafnakpfhaa
open Go.RowKit Go.Lib

set_option maxRecDepth 100000 in
set_option maxHeartbeats 4000000 in
theorem wheelOrder_law (w : World) (A : Option Addr) (ts : List Int) (c : Nat) (B : Option Addr) (ps : List Int) (d : Nat) (hU : I64s w A ts) (hc : ts.length ≤ c) (hm : c ≤ maxLen) (hV : I64s w B ps) (hd : ps.length ≤ d) (hq : d ≤ maxLen) :
    Calls Try.prog 4 #[.slice A ts.length c, .slice B ps.length d] w fun e w' => e = .returned (.bool true) ∧ Below w.heap.size w w' := by
  obtain ⟨i0, hi0, hy0, hy1, hy2⟩ := info_parts info_i35
  have HU := Lib.hid hU
  have HV := Lib.hid hV
  unfold maxLen at hm hq
  have hlT : (ts.length : Int) ≤ 9223372036854775807 := by omega
  have hlP : (ps.length : Int) ≤ 9223372036854775807 := by omega
  have HL := Lib.hid (lives35_any w)
  have HN := Lib.hid (fun W => new_any35 W)
  clear hU hc hm hV hd hq
  go_enter Try.func4, Try.ntmps4
  go_wp2_with (fail)
  with_reducible refine HL.out.mono ?_
  rintro e w1 ⟨rfl, hb⟩
  have B1 := Lib.hid hb
  clear hb
  by_cases h100 : 100 < ts.length
  · have h1I : 100 < (ts.length : Int) := by omega
    clear h100
    go_wp2_with (fail)
    go_ret
    exact ⟨rfl, B1.out⟩
  have h1I : ¬ 100 < (ts.length : Int) := by omega
  have H100 := Lib.hid (show ts.length ≤ 100 by omega)
  clear h100
  by_cases h200 : 100 < ps.length
  · have h2I : 100 < (ps.length : Int) := by omega
    clear h200
    go_wp2_with (fail)
    go_ret
    exact ⟨rfl, B1.out⟩
  have h2I : ¬ 100 < (ps.length : Int) := by omega
  have H200 := Lib.hid (show ps.length ≤ 100 by omega)
  clear h200
  go_wp2_with (fail)
  with_reducible refine (HN.out _).mono ?_
  rintro e w2 ⟨g, mb, rfl, k1, k2, k3, k4⟩
  have z1 := B1.out.size
  have W2 := Lib.hid (show LW (fun b => b < w.heap.size) w2 g mb 0 (thing ts 0) ∧ KeepK (fun b => b < w.heap.size) w w2 from ⟨⟨none, k1, fun b hb => ⟨by have := k2.size; omega, by omega, by omega, fun q hq => by cases hq⟩⟩, (KeepK.of_below B1.out fun b hb => hb).trans (KeepK.of_below k2 fun b hb => by omega)⟩)
  clear k1 k2 k3 k4 z1
  go_wp2_with (fail)
  go_loopg [35] ts.length (fun gg v35 wr => ∃ (k : Nat), v35 = .int .i64 (k : Int) ∧ Aside (gg + k = ts.length) ∧ Aside (LW (fun b => b < w.heap.size) wr g mb k (thing ts k) ∧ KeepK (fun b => b < w.heap.size) w wr))
  case atStart => exact ⟨0, rfl, rfl, W2.out⟩
  case round =>
    obtain ⟨k, rfl, hg, hP⟩ := hrel
    by_cases hlt : k < ts.length
    · obtain ⟨b0, o, rfl, hal, hac⟩ := HU.out.2 (by omega)
      obtain ⟨t, hyk⟩ : ∃ t, ts[k]? = some t := ⟨_, List.getElem?_eq_getElem hlt⟩
      have hto := HU.out.1 t (List.mem_of_getElem? hyk)
      have hbw : Below w.heap.size w wr := below_of_keep hP.out.2
      have a0 : wr.cell? ⟨b0, o + k, none⟩ = some (.int .i64 t) := (hbw.cell (p := ⟨b0, o + k, none⟩) hal).trans (hac k t hyk)
      have hltI : (k : Int) < (ts.length : Int) := by omega
      have hxl : (ts.length : Int) ≤ 100 := by have := H100.out; omega
      have HA := Lib.hid (hP.out.1.add ⟨(k : Int), t⟩ ⟨by simp only; omega, hto⟩ (by have := H100.out; omega))
      rw [thing_succ hyk, show hasId (thing ts k) (⟨(k : Int), t⟩ : Th).id = false from thing_not k (Nat.le_refl k)] at HA
      clear hac hyk hto hbw hal hlt
      go_wp2_with (fail)
      with_reducible refine HA.out.mono ?_
      rintro e w3 ⟨rfl, q1, q2⟩
      have W3 := Lib.hid (And.intro q1 (hP.out.2.trans q2))
      clear q1 q2
      go_wp2_with (fail)
      go_roundg (ts.length - (k + 1))
      case measure => have := hg.out; omega
      case rel => exact ⟨k + 1, by go_num, (show ts.length - (k + 1) + (k + 1) = ts.length by have := hltI; omega), W3.out⟩
    · have hltI : ¬ (k : Int) < (ts.length : Int) := by omega
      have hke : k = ts.length := by have := hg.out; omega
      subst hke
      have W4 := Lib.hid (show WO w wr g mb ts.length (thing ts ts.length) [] 0 none 0 ∧ Ord ts [] (thing ts ts.length) (-9223372036854775808) from ⟨⟨hP.out.1.less fun b hb => hb.elim id fun e => by simp [Value.ownBlock] at e, Nat.le_refl _, Sl.nil _ _, fun q hq => by simp [Value.ownBlock] at hq, hP.out.2⟩, ord_start ts _⟩)
      clear hlt hP hg
      go_wp2_with (fail)
      go_loopg [8, 9, 48] ps.length (fun gg v8 v9 v48 wr => ∃ (k n : Nat) (F v : List Th) (now : Int) (A2 : Option Addr) (c2 : Nat), v48 = .int .i64 (k : Int) ∧ v8 = .slice A2 n c2 ∧ v9 = .int .i64 now ∧ Aside (gg + k = ps.length) ∧ Aside (-9223372036854775808 ≤ now ∧ now ≤ 9223372036854775807) ∧ Aside (n = F.length ∧ WO w wr g mb ts.length v F n A2 c2 ∧ Ord ts F v now))
      case atStart => exact ⟨0, 0, [], thing ts ts.length, _, none, 0, rfl, rfl, rfl, rfl, (show _ ∧ _ from ⟨by omega, by omega⟩), ⟨rfl, W4.out.1.of_nil, W4.out.2⟩⟩
      case round =>
        obtain ⟨k, n, F, v, now, A2, c2, rfl, rfl, rfl, hg, hnw, hI⟩ := hrel
        have hn100 : n ≤ 100 := by have := hI.out.2.2.len; have := hI.out.1; have := H100.out; omega
        by_cases hlt : k < ps.length
        · obtain ⟨b0, o, rfl, hal, hac⟩ := HV.out.2 (by omega)
          obtain ⟨p, hpk⟩ : ∃ p, ps[k]? = some p := ⟨_, List.getElem?_eq_getElem hlt⟩
          have hpo := HV.out.1 p (List.mem_of_getElem? hpk)
          have hbw : Below w.heap.size w wr := below_of_keep hI.out.2.1.kp
          have a0 : wr.cell? ⟨b0, o + k, none⟩ = some (.int .i64 p) := (hbw.cell (p := ⟨b0, o + k, none⟩) hal).trans (hac k p hpk)
          have hltI : (k : Int) < (ps.length : Int) := by omega
          have hxl : (ps.length : Int) ≤ 100 := by have := H200.out; omega
          have HPO := Lib.hid hpo
          clear hac hpk hpo hbw hal hlt
          by_cases hpn : p < now
          · go_wp2_with (fail)
            go_roundg (ps.length - (k + 1))
            case measure => have := hg.out; omega
            case rel => exact ⟨k + 1, n, F, v, now, A2, c2, by go_num, rfl, rfl, (show ps.length - (k + 1) + (k + 1) = ps.length by have := hltI; omega), hnw.out, hI.out⟩
          · have hnd : (v.map Th.id).Nodup := by
              obtain ⟨AA, q1, _⟩ := hI.out.2.1.lw
              exact q1.nodup
            have hN := hI.out.2.2.next (t := p) (by omega) hnd
            obtain ⟨P, hP2⟩ : ∃ P, popV v.length v p = P := ⟨_, rfl⟩
            have HPP := Lib.hid (hI.out.2.1.lw.pop2 p)
            rw [hP2] at HPP hN
            have HN := Lib.hid hN
            clear hnd hN
            go_wp2_with (fail)
            with_reducible refine HPP.out.mono ?_
            rintro e w3 ⟨A3, c3, rfl, q1, q2, q3, q4⟩
            have hz3 := hI.out.2.1.sl.lt
            have W3 := Lib.hid (show WO w w3 g mb ts.length P.2 (F ++ P.1) n A2 c2 ∧ Sl w3 1 (.slice A3 P.1.length c3) P.1.length (P.1.map idV) ∧ ∀ a b, (Value.slice A2 n c2).ownBlock = some a → (Value.slice A3 P.1.length c3).ownBlock = some b → a ≠ b from
              ⟨(hI.out.2.1.turn q3 q4).more hI.out.1 _, q1, fun a b ha hb => by have := hz3 a ha; have := q2 b hb; omega⟩)
            have HNF := Lib.hid hI.out.1
            have HLE := Lib.hid (show F.length + P.1.length + P.2.length = ts.length by have := HN.out.1.len; rw [List.length_append] at this; exact this)
            have hP100 : (P.1.length : Int) ≤ 100 := by have := HLE.out; have := H100.out; omega
            clear q1 q2 q3 q4 hz3 hI a0
            go_wp2_with (fail)
            go_loopg [8, 60] P.1.length (fun gg v8 v60 wx => ∃ (j m : Nat) (A4 : Option Addr) (c4 : Nat), v60 = .int .i64 (j : Int) ∧ v8 = .slice A4 m c4 ∧ Aside (gg + j = P.1.length ∧ m = n + j) ∧ Aside (WA w wx g mb ts.length P.2 (F ++ P.1) m A4 c4 P.1 A3 c3))
            case atStart => exact ⟨0, n, A2, c2, rfl, rfl, ⟨rfl, rfl⟩, W3.out⟩
            case round =>
              obtain ⟨j, m, A4, c4, rfl, rfl, hj, hX⟩ := hrel
              by_cases hjl : j < P.1.length
              · have hm100 : (m : Int) < 100 := by have := hj.out; have := HLE.out; have := H100.out; have := HNF.out; omega
                obtain ⟨x, hx⟩ : ∃ x, P.1[j]? = some x := ⟨_, List.getElem?_eq_getElem hjl⟩
                have hxF : (F ++ P.1)[m]? = some x := by
                  rw [hj.out.2, HNF.out, List.getElem?_append_right (by omega), show F.length + j - F.length = j by omega]
                  exact hx
                obtain ⟨i, hxi, hti⟩ := HN.out.1.right x (List.mem_append_left _ (List.mem_of_getElem? hxF))
                have hdue := HN.out.1.due x (List.mem_of_getElem? hxF)
                have hil : i < ts.length := (List.getElem?_eq_some_iff.1 hti).1
                obtain ⟨bt, ot, rfl, htl, htc⟩ := HU.out.2 (by omega)
                have hbw : Below w.heap.size w wr := below_of_keep hX.out.1.kp
                have a1 : wr.cell? ⟨bt, ot + i, none⟩ = some (.int .i64 x.t) := (hbw.cell (p := ⟨bt, ot + i, none⟩) htl).trans (htc i _ hti)
                obtain ⟨qa, ca, hva, _, _, _, hca⟩ := Sl.form hX.out.2.1 (by omega)
                injection hva with hva _ hva2
                subst hva hva2
                have a2 : wr.cell? ⟨qa, j, none⟩ = some (.int .i64 (i : Int)) := by
                  have := hca j (idV x) (by rw [List.getElem?_map, hx]; rfl)
                  unfold idV at this
                  rw [hxi] at this
                  exact this
                have hjI : (j : Int) < (P.1.length : Int) := by omega
                have hiI : (i : Int) < (ts.length : Int) := by omega
                have hin0 : ¬ (i : Int) < 0 := by omega
                have hi1 : ¬ (ts.length : Int) ≤ (i : Int) := by omega
                have hd1 : ¬ p < x.t := by omega
                have htM : (ts.length : Int) ≤ 100 := by have := H100.out; omega
                have HX := Lib.hid (And.intro hxF (And.intro hxi hj.out))
                clear hx hti hdue hil hca hjl
                cases m with
                | zero =>
                  have hm0 : ¬ (0 : Int) < ((0 : Nat) : Int) := by omega
                  clear htl htc hbw
                  go_wp2_with (fail)
                  go_quiet (fail)
                  obtain ⟨W, hW⟩ : ∃ W, wr.drewN nq = W := ⟨_, rfl⟩
                  have HD := Lib.hid (show Below wr.heap.size wr W from by rw [← hW]; exact below_drewN (Below.refl _ _) nq)
                  rw [hW]
                  clear hW
                  have HXW := Lib.hid (hX.out.below HD.out)
                  have HSL := Lib.hid (HXW.out.1.sl.alloc (.cells #[.int .i64 (i : Int)] 3))
                  have HSR := Lib.hid (src_new (P := Try.prog) Try.underlying34 W 3 (.int .i64 (i : Int)) rfl)
                  go_wp2_with (at_builtin; go_must (refine wpList_append_sl _ rfl (.tmp 99) (.tmp 101) 34 34 rfl 3 i0 (.int .i64 0) 1 8 Try.underlying34 hi0 hy0 hy1 hy2 rfl (.slice A4 0 c4) 0 _ rfl HSL.out _ rfl 1 [.int .i64 (i : Int)] HSR.out (by unfold maxLen; omega) (by omega) ?_); intro v3 w9 hs3 hg3 hv3; obtain ⟨A5, c5, rfl, hc5, hm5⟩ := hs3.shape; have H3 := Lib.hid (And.intro hs3 (And.intro hg3 hv3)); clear hs3 hg3 hv3 hc5 hm5)
                  go_roundg (P.1.length - (j + 1))
                  case measure => have := hj.out; omega
                  case rel => exact ⟨j + 1, 0 + 1, A5, c5, by go_num, rfl, ⟨by have := hjI; omega, by have := HX.out.2.2.2; omega⟩, HXW.out.grow HX.out.1 HX.out.2.1 H3.out.1 H3.out.2.1 H3.out.2.2⟩
                | succ m' =>
                  obtain ⟨y, hy⟩ : ∃ y, (F ++ P.1)[m']? = some y := ⟨_, List.getElem?_eq_getElem (by have := hX.out.1.nl; omega)⟩
                  obtain ⟨i2, hyi, hti2⟩ := HN.out.1.right y (List.mem_append_left _ (List.mem_of_getElem? hy))
                  have hyx := sorted_at HN.out.1.sort (Nat.succ_pos m') HX.out.1 hy
                  have hi2 : i2 < ts.length := (List.getElem?_eq_some_iff.1 hti2).1
                  have b1 : wr.cell? ⟨bt, ot + i2, none⟩ = some (.int .i64 y.t) := (hbw.cell (p := ⟨bt, ot + i2, none⟩) htl).trans (htc i2 _ hti2)
                  obtain ⟨qg, cg, hvg, _, _, _, hcg⟩ := Sl.form hX.out.1.sl (by omega)
                  injection hvg with hvg _ hvg2
                  subst hvg hvg2
                  have b2 : wr.cell? ⟨qg, m', none⟩ = some (.int .i64 (i2 : Int)) := by
                    have := hcg m' (idV y) (by rw [List.getElem?_map, List.getElem?_take_of_lt (by omega), hy]; rfl)
                    unfold idV at this
                    rw [hyi] at this
                    exact this
                  have hi2I : (i2 : Int) < (ts.length : Int) := by omega
                  have hyx2 : ¬ x.t < y.t := by omega
                  obtain ⟨m, hm⟩ : ∃ m, m' + 1 = m := ⟨_, rfl⟩
                  have hmI : (m : Int) - 1 = (m' : Int) := by omega
                  have hm0 : (0 : Int) < (m : Int) := by omega
                  have hmm : (m' : Int) < (m : Int) := by omega
                  have hmd : decide ((0 : Int) < (m : Int)) = true := by simpa using hm0
                  have hmN : 0 < m := by omega
                  have hm100 : (m : Int) < 100 := by omega
                  rw [hm] at hX HX
                  rw [hm]
                  clear hy hyi hti2 hyx hi2 hcg htl htc hbw hm
                  go_wp2_with (fail)
                  go_quiet (fail)
                  obtain ⟨W, hW⟩ : ∃ W, wr.drewN nq = W := ⟨_, rfl⟩
                  have HD := Lib.hid (show Below wr.heap.size wr W from by rw [← hW]; exact below_drewN (Below.refl _ _) nq)
                  rw [hW]
                  clear hW
                  have HXW := Lib.hid (hX.out.below HD.out)
                  have HSL := Lib.hid (HXW.out.1.sl.alloc (.cells #[.int .i64 (i : Int)] 3))
                  have HSR := Lib.hid (src_new (P := Try.prog) Try.underlying34 W 3 (.int .i64 (i : Int)) rfl)
                  go_wp2_with (at_builtin; go_must (refine wpList_append_sl _ rfl (.tmp 99) (.tmp 101) 34 34 rfl 3 i0 (.int .i64 0) 1 8 Try.underlying34 hi0 hy0 hy1 hy2 rfl (.slice (some ⟨qg, 0, none⟩) m c4) m _ rfl HSL.out _ rfl 1 [.int .i64 (i : Int)] HSR.out (by unfold maxLen; omega) (by omega) ?_); intro v3 w9 hs3 hg3 hv3; obtain ⟨A5, c5, rfl, hc5, hm5⟩ := hs3.shape; have H3 := Lib.hid (And.intro hs3 (And.intro hg3 hv3)); clear hs3 hg3 hv3 hc5 hm5)
                  go_roundg (P.1.length - (j + 1))
                  case measure => have := hj.out; omega
                  case rel => exact ⟨j + 1, m + 1, A5, c5, by go_num, rfl, ⟨by have := hjI; omega, by have := HX.out.2.2.2; omega⟩, HXW.out.grow HX.out.1 HX.out.2.1 H3.out.1 H3.out.2.1 H3.out.2.2⟩
              · have hjI : ¬ (j : Int) < (P.1.length : Int) := by omega
                have hje : j = P.1.length := by have := hj.out; omega
                have hmF : m = (F ++ P.1).length := by rw [List.length_append]; have := hj.out; have := HNF.out; omega
                have hsum : (m : Int) + (P.2.length : Int) = (ts.length : Int) := by
                  have := HLE.out
                  rw [List.length_append] at hmF
                  omega
                have htM : (ts.length : Int) ≤ 100 := by have := H100.out; omega
                have e3 : ((ts.length : Int) != (ts.length : Int)) = false := by simp
                have HX := Lib.hid (And.intro hX.out.1 hmF)
                have HNX := Lib.hid hX.out.1.lw.next
                clear hX hjl hje hmF hj
                go_wp2_with (fail)
                with_reducible refine HNX.out.mono ?_
                rintro e w4 ⟨rfl, q1, q2⟩
                have W4 := Lib.hid (HX.out.1.turn q1 q2)
                clear q1 q2 HNX
                have HLN := Lib.hid W4.out.lw.len
                cases hmv : minV P.2 with
                | none =>
                  simp only [Option.elim_none, Option.isSome_none]
                  go_wp2_with (fail)
                  with_reducible refine HLN.out.mono ?_
                  rintro e w5 ⟨rfl, q1, q2⟩
                  have W5 := Lib.hid (W4.out.turn q1 q2)
                  clear q1 q2 HLN
                  go_wp2_with (fail)
                  go_roundg (ps.length - (k + 1))
                  case measure => have := hg.out; omega
                  case rel => exact ⟨k + 1, m, F ++ P.1, P.2, p, A4, c4, by go_num, rfl, rfl, (show ps.length - (k + 1) + (k + 1) = ps.length by have := hltI; omega), HPO.out, ⟨HX.out.2, W5.out, HN.out.1⟩⟩
                | some x =>
                  have hlate : ¬ x.t ≤ p := by have := HN.out.2 x (minV_mem hmv).1; omega
                  simp only [Option.elim_some, Option.isSome_some]
                  go_wp2_with (fail)
                  with_reducible refine HLN.out.mono ?_
                  rintro e w5 ⟨rfl, q1, q2⟩
                  have W5 := Lib.hid (W4.out.turn q1 q2)
                  clear q1 q2 HLN
                  go_wp2_with (fail)
                  go_roundg (ps.length - (k + 1))
                  case measure => have := hg.out; omega
                  case rel => exact ⟨k + 1, m, F ++ P.1, P.2, p, A4, c4, by go_num, rfl, rfl, (show ps.length - (k + 1) + (k + 1) = ps.length by have := hltI; omega), HPO.out, ⟨HX.out.2, W5.out, HN.out.1⟩⟩
        · have hltI : ¬ (k : Int) < (ps.length : Int) := by omega
          obtain ⟨W5, hmk, hs5, hb5⟩ := make_bools ts.length (by have := H100.out; omega) wr
          have hss := hI.out.2.1.sl.lt
          have hkz := hI.out.2.1.kp.size
          have hkb := hI.out.2.1.kp
          obtain ⟨sg, hsg⟩ : ∃ sg, wr.heap.size = sg := ⟨_, rfl⟩
          rw [hsg] at hmk hs5 hss hkz
          have H5 := Lib.hid (show Below w.heap.size w W5 ∧ Sl W5 1 (.slice A2 n c2) n (F.map idV) ∧ Sl W5 1 (.slice (some ⟨sg, 0, none⟩) ts.length ts.length) ts.length (seenL ts.length (F.take 0)) from ⟨(below_of_keep hI.out.2.1.kp).trans (hb5.mono hI.out.2.1.kp.size), by
            have := hI.out.2.1.sl.below hb5 hI.out.2.1.sl.lt
            rw [hI.out.1, List.take_length] at this
            rw [hI.out.1]
            exact this, by
            rw [List.take_zero, seen_nil]
            exact hs5⟩)
          have HF := Lib.hid (And.intro hI.out.1 (And.intro hI.out.2.2 (And.intro hkz fun q hq => (Nat.ne_of_lt (hss q hq)))))
          have hnI : (n : Int) ≤ 100 := by omega
          clear hlt hg hnw hI hs5 hb5 hss hn100 hkz hkb hsg
          go_wp2_with (fail)
          go_loopg [131] n (fun gg v131 wx => ∃ j : Nat, v131 = .int .i64 (j : Int) ∧ Aside (gg + j = n) ∧ Aside (Below w.heap.size w wx ∧ Sl wx 1 (.slice A2 n c2) n (F.map idV) ∧ Sl wx 1 (.slice (some ⟨sg, 0, none⟩) ts.length ts.length) ts.length (seenL ts.length (F.take j))))
          case atStart => exact ⟨0, rfl, rfl, H5.out⟩
          case round =>
            obtain ⟨j, rfl, hj, hX⟩ := hrel
            by_cases hjl : j < n
            · obtain ⟨x, hx⟩ : ∃ x, F[j]? = some x := ⟨_, List.getElem?_eq_getElem (by have := HF.out.1; omega)⟩
              obtain ⟨i, hxi, hti⟩ := HF.out.2.1.right x (List.mem_append_left _ (List.mem_of_getElem? hx))
              have hil : i < ts.length := (List.getElem?_eq_some_iff.1 hti).1
              have hnd : (F.map Th.id).Nodup := by
                have := HF.out.2.1.nodup
                rw [List.map_append, List.nodup_append] at this
                exact this.1
              have hno := nodup_at hnd hx
              rw [hxi] at hno
              obtain ⟨qa, ca, hva, hqa, _, _, hca⟩ := Sl.form hX.out.2.1 (by omega)
              injection hva with hva _ hva2
              subst hva hva2
              have a1 : wr.cell? ⟨qa, j, none⟩ = some (.int .i64 (i : Int)) := by
                have := hca j (idV x) (by rw [List.getElem?_map, hx]; rfl)
                unfold idV at this
                rw [hxi] at this
                exact this
              have a2 : wr.cell? ⟨sg, i, none⟩ = some (.bool false) := by
                have := hX.out.2.2.cell (g := sg) rfl (seen_at (F.take j) hil)
                rw [hno] at this
                exact this
              have a3 : wr.frozen? ⟨sg, i, none⟩ = false := hX.out.2.2.free (g := sg) rfl (by omega)
              have hjI : (j : Int) < (n : Int) := by omega
              have hiI : (i : Int) < (ts.length : Int) := by omega
              have htM : (ts.length : Int) ≤ 100 := by have := H100.out; omega
              have HX := Lib.hid (And.intro hx (And.intro hxi hil))
              clear hx hxi hti hil hnd hno hqa hca hjl
              go_wp2_with (fail)
              go_roundg (n - (j + 1))
              case measure => have := hj.out; omega
              case rel =>
                refine ⟨j + 1, by go_num, (show n - (j + 1) + (j + 1) = n by omega), hX.out.1.setCell (p := ⟨sg, i, none⟩) HF.out.2.2.1 _, hX.out.2.1.far (p := ⟨sg, i, none⟩) HF.out.2.2.2 _, ?_⟩
                have := hX.out.2.2.set_ (g := sg) rfl i (.bool true) (by have := HX.out.2.2; omega)
                rw [seen_set HX.out.2.2 HX.out.2.1] at this
                rw [List.take_add_one, HX.out.1]
                exact this
            · have hjI : ¬ (j : Int) < (n : Int) := by omega
              clear hjl
              go_wp2_with (fail)
              go_ret
              exact ⟨rfl, hX.out.1⟩
end Go.Proofs.Ytkdijafnakpfhaa
