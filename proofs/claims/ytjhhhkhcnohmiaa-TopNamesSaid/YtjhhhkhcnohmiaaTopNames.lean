/- The walk of hardtacktop.TopNames. -/
import Derived.Test.YtjhhhkhcnohmiaaTopNamesM
import Derived.Test.YtjhhhkhcnohmiaaTopBegin
import Derived.Test.YtjhhhkhcnohmiaaCommon
import Derived.Test.YtjhhhkhcnohmiaaStableN
import Derived.Test.YtjhhhkhcnohmiaaSort02
namespace Go.Proofs.Ytjhhhkhcnohmiaa
open Go.RowKit Go.Lib

theorem k2D {V W : World} {b o1 o2 : Nat} {x1 x2 : Option Value}
    (H : W.cell? ⟨b, o1, none⟩ = x1 ∧ W.cell? ⟨b, o2, none⟩ = x2 ∧ V.heap.size ≤ W.heap.size ∧ Below V.heap.size V W) :
    W.drew.cell? ⟨b, o1, none⟩ = x1 ∧ W.drew.cell? ⟨b, o2, none⟩ = x2 ∧ V.heap.size ≤ W.drew.heap.size ∧ Below V.heap.size V W.drew := ⟨H.1, H.2.1, H.2.2.1, H.2.2.2.drew⟩
theorem k2C {V W w' : World} {b o1 o2 : Nat} {x1 x2 : Option Value} (hb : b < V.heap.size)
    (H : W.cell? ⟨b, o1, none⟩ = x1 ∧ W.cell? ⟨b, o2, none⟩ = x2 ∧ V.heap.size ≤ W.heap.size ∧ Below V.heap.size V W) (hw : Below W.heap.size W w') :
    w'.cell? ⟨b, o1, none⟩ = x1 ∧ w'.cell? ⟨b, o2, none⟩ = x2 ∧ V.heap.size ≤ w'.heap.size ∧ Below V.heap.size V w' := by
  obtain ⟨h0, h1, h2, h3⟩ := H
  have hb' : b < W.heap.size := by omega
  exact ⟨(hw.cell (p := ⟨b, o1, none⟩) hb').trans h0, (hw.cell (p := ⟨b, o2, none⟩) hb').trans h1, Nat.le_trans h2 hw.size, h3.trans (hw.mono h2)⟩

set_option maxRecDepth 100000 in
set_option maxHeartbeats 8000000 in
theorem topNames_law (w : World) (A : Option Addr) (xs : List ByteArray) (c : Nat) (hT : TTab w A (xs.map Value.string)) (hx : ∀ x ∈ xs, x.size ≤ maxLen) (hc : xs.length ≤ c) (hm : c ≤ maxLen) :
    Calls Try.prog 11 #[.slice A xs.length c] w fun e w' => e = .returned (.bool true) ∧ Below w.heap.size w w' := by
  obtain ⟨i0, hi0, hz0, hz1, hz2⟩ := info_parts info_str
  have HT := Lib.hid (And.intro hT hx)
  unfold maxLen at hm
  have hlM : (xs.length : Int) ≤ 9223372036854775807 := by omega
  have HB := Lib.hid (fun W => begins_any W)
  by_cases h1 : 40 < xs.length
  · have h1I : 40 < (xs.length : Int) := by omega
    clear h1 hT hx hc hm hi0 hz0 hz1 hz2
    go_enter Try.func11, Try.ntmps11
    go_wp2_with (fail)
    with_reducible refine (HB.out _).mono ?_
    rintro e w1 ⟨rfl, hb⟩
    go_wp2_with (fail)
    go_ret
    exact ⟨rfl, hb⟩
  have h1I : ¬ 40 < (xs.length : Int) := by omega
  have H40 := Lib.hid (show xs.length ≤ 40 by omega)
  clear h1 hT hx hc hm
  go_enter Try.func11, Try.ntmps11
  go_wp2_with (fail)
  with_reducible refine (HB.out _).mono ?_
  rintro e w1 ⟨rfl, hb⟩
  have B1 := Lib.hid hb
  clear hb
  go_wp2_with (fail)
  go_loopg [3, 5, 6, 7, 24] xs.length (fun g v3 _ _ _ v24 wr => ∃ (k : Nat) (L : List Bs), v24 = .int .i64 (k : Int) ∧ Aside (g + k = xs.length ∧ L.length ≤ k) ∧ Aside (Sl wr 1 v3 L.length (strs L)) ∧ Aside (∀ g, v3.ownBlock = some g → w.heap.size ≤ g) ∧ Aside (∀ y ∈ L, isName y = true) ∧ Aside (Below w.heap.size w wr))
  case atStart => exact ⟨0, [], rfl, ⟨rfl, Nat.le_refl _⟩, Sl.nil _ _, (show Aside _ from fun g hg => by simp [Value.ownBlock] at hg), (show Aside _ from fun y hy => absurd hy List.not_mem_nil), B1.out⟩
  case round =>
    obtain ⟨k, L, rfl, hg, hS, hO, hN, hB⟩ := hrel
    have hL40 : L.length ≤ 40 := by have := hg.out; have := H40.out; omega
    have hLI : (L.length : Int) ≤ 40 := by omega
    by_cases hlt : k < xs.length
    · obtain ⟨b0, o, rfl, hal, hac⟩ := HT.out.1 (by rw [List.length_map]; omega)
      obtain ⟨x, hxk⟩ : ∃ x, xs[k]? = some x := ⟨_, List.getElem?_eq_getElem hlt⟩
      have a0 : wr.cell? ⟨b0, o + k, none⟩ = some (.string x) := (hB.out.cell (p := ⟨b0, o + k, none⟩) hal).trans (hac k _ (by rw [List.getElem?_map, hxk]; rfl))
      have hltI : (k : Int) < (xs.length : Int) := by omega
      have HP := Lib.hid (fun W => Parse_any x (HT.out.2 x (List.mem_of_getElem? hxk)) W)
      have hpn := parse_name (t := x.data.toList)
      obtain ⟨y, hy⟩ : ∃ y, (parseP x.data.toList).1 = y := ⟨_, rfl⟩
      obtain ⟨r, hr⟩ : ∃ r, (parseP x.data.toList).2 = r := ⟨_, rfl⟩
      rw [hy, hr] at HP hpn
      have HL := Lib.hid (And.intro hlt hL40)
      by_cases hr0 : r = 0
      · subst hr0
        have HN := Lib.hid (hpn rfl)
        clear hac hxk hlt hL40 hpn hy hr
        go_wp2_with (fail)
        with_reducible refine (HP.out _).mono ?_
        rintro e w2 ⟨rfl, hb⟩
        have B2 := Lib.hid (hB.out.trans (hb.mono hB.out.size))
        have HS2 := Lib.hid (hS.out.below hb hS.out.lt)
        clear hb
        go_wp2_with (at_builtin; go_must (refine wpList_append_sl _ rfl (.tmp 35) (.tmp 37) 45 45 rfl 9 i0 (.string ⟨#[]⟩) 1 16 Try.underlying45 hi0 hz0 hz1 hz2 rfl u3 L.length (strs L) rfl (HS2.out.alloc _) _ rfl 1 [.string ⟨y.toArray⟩] (src_new (P := Try.prog) Try.underlying45 w2 _ _ rfl) (by have := HL.out.2; unfold maxLen; omega) (by have := HL.out.2; omega) ?_); intro v3 w3 hs3 hg3 hv3; have H3 := Lib.hid (And.intro hs3 (And.intro hg3 hv3)); clear hs3 hg3 hv3)
        obtain ⟨hs3, hg3, hv3⟩ := H3.out
        go_roundg (xs.length - (k + 1))
        case measure => have := hg.out; have := HL.out; omega
        case rel =>
          have hsz := B2.out.size
          refine ⟨k + 1, L ++ [y], by go_num, (by show _ ∧ _; have := hg.out; have := HL.out; simp; omega), ?_, own_from hO.out (by simp; omega) hv3, (show Aside _ from fun z hz => ?_), (B2.out.alloc hsz _).grown hg3 (by simp; omega) hO.out⟩
          · show Sl _ _ _ _ _
            rw [List.length_append, strs_snoc]
            exact hs3
          · rcases List.mem_append.1 hz with h | h
            · exact hN.out z h
            · rw [List.mem_singleton.1 h]; exact HN.out
      · have hrb : (r == 0) = false := by simpa using hr0
        clear hac hxk hlt hL40 hpn hy hr hr0
        go_wp2_with (fail)
        with_reducible refine (HP.out _).mono ?_
        rintro e w2 ⟨rfl, hb⟩
        have B2 := Lib.hid (hB.out.trans (hb.mono hB.out.size))
        have HS2 := Lib.hid (hS.out.below hb hS.out.lt)
        clear hb
        go_wp2_with (fail)
        go_roundg (xs.length - (k + 1))
        case measure => have := hg.out; have := HL.out; omega
        case rel => exact ⟨k + 1, L, by go_num, (by show _ ∧ _; have := hg.out; have := HL.out; omega), HS2.out, hO, hN, B2.out⟩
    · obtain ⟨A3, c3, rfl, _, _⟩ := hS.out.shape
      have hLs : (L.map fun x => (⟨x.toArray⟩ : ByteArray)).map Value.string = strs L := by simp [strs]
      have hLl : (L.map fun x => (⟨x.toArray⟩ : ByteArray)).length = L.length := List.length_map _
      have hLd : (L.map fun x => (⟨x.toArray⟩ : ByteArray)).map (fun x => x.data.toList) = L := by rw [List.map_map]; exact List.map_id'' (fun _ => rfl) L
      have hsrt := Sort_any stable_all (L.map fun x => (⟨x.toArray⟩ : ByteArray)) A3 c3 wr (by rw [hLs]; exact sl_tt hS.out) (fun x hx => by
        obtain ⟨y, hy, rfl⟩ := List.mem_map.1 hx
        have h1 := ((isName_iff _).1 (hN.out y hy)).1
        show y.toArray.size ≤ _
        simp; omega) (by rw [hLl]; omega) (by rw [hLl]; omega)
      rw [hLl, hLd] at hsrt
      obtain ⟨f1, f2, f3⟩ := sortN_facts L
      obtain ⟨U, hU⟩ : ∃ U, sortN L = U := ⟨_, rfl⟩
      rw [hU] at hsrt f1 f2 f3
      have HS := Lib.hid hsrt
      have HF := Lib.hid (And.intro f1 (And.intro f2 (And.intro f3 hL40)))
      have hUI : (U.length : Int) ≤ 40 := by omega
      have hfin : (U.length : Int) ≤ (L.length : Int) := by omega
      have hltI : ¬ (k : Int) < (xs.length : Int) := by omega
      clear hLs hLl hLd hsrt f1 f2 f3 hU hlt hL40
      go_wp2_with (fail)
      with_reducible refine (HS.out).mono ?_
      rintro e w3 ⟨A4, c4, rfl, hs4, _, hb⟩
      have B3 := Lib.hid (hB.out.trans (hb.mono hB.out.size))
      have HT4 := Lib.hid (sl_tt hs4)
      clear hb hs4
      go_wp2_with (fail)
      go_loopg [9, 10, 11, 12, 13, 14, 15, 16, 44] U.length (fun g _ _ _ _ _ _ _ _ v44 wr => ∃ k : Nat, v44 = .int .i64 (k : Int) ∧ Aside (g + k = U.length) ∧ Aside (Below w3.heap.size w3 wr))
      case atStart => exact ⟨0, rfl, rfl, Below.refl _ _⟩
      case round =>
        obtain ⟨k, rfl, hg, hB4⟩ := hrel
        by_cases hlt : k < U.length
        · obtain ⟨b0, o, rfl, hal, hac⟩ := HT4.out (by rw [strs_len]; omega)
          obtain ⟨x, hxk⟩ : ∃ x, U[k]? = some x := ⟨_, List.getElem?_eq_getElem hlt⟩
          have hxn := HF.out.2.1 x (List.mem_of_getElem? hxk)
          obtain ⟨X, hX⟩ : ∃ X : ByteArray, (⟨x.toArray⟩ : ByteArray) = X := ⟨_, rfl⟩
          have hXl : X.data.toList = x := by rw [← hX]
          have hmx : ∀ (y : Bs) (Y : ByteArray), isName y = true → Y.data.toList = y → Y.size ≤ maxLen := fun y Y h1 h2 => by
            have h3 := ((isName_iff _).1 h1).1
            rw [← h2] at h3
            simp at h3
            unfold maxLen; omega
          have hXs := hmx x X hxn hXl
          have a0 : wr.cell? ⟨b0, o + k, none⟩ = some (.string X) := (hB4.out.cell (p := ⟨b0, o + k, none⟩) hal).trans (by rw [← hX]; exact hac k _ (strs_get hxk))
          have hltI : (k : Int) < (U.length : Int) := by omega
          obtain ⟨hp1, hp2⟩ := parse_print hxn
          have hpr := fun W => Print_any X hXs W
          rw [hXl, hp1] at hpr
          obtain ⟨P, hP⟩ : ∃ P : ByteArray, (⟨(printP x).1.toArray⟩ : ByteArray) = P := ⟨_, rfl⟩
          have hPl : P.data.toList = (printP x).1 := by rw [← hP]
          rw [hP] at hpr
          have hPs : P.size ≤ maxLen := by
            have h1 : (printP x).1.length ≤ 4 * 256 := by
              unfold printP
              split
              · simp
              · split
                · simp
                · have h2 := printT_len (labs x).1
                  have h3 := enc_le x
                  have h4 := ((isName_iff _).1 hxn).1
                  show (printT (labs x).1).length ≤ _
                  omega
            rw [← hPl] at h1
            simp at h1
            unfold maxLen; omega
          have hpa := fun W => Parse_any P hPs W
          rw [hPl, hp2] at hpa
          have hpa' : ∀ W, Calls Try.prog 48 #[.string P] W fun e w' => e = .returned (.tuple #[.string X, .int .i64 0]) ∧ Below W.heap.size W w' := fun W => by rw [← hX]; exact hpa W
          have HPR := Lib.hid hpr
          have HPA := Lib.hid hpa'
          have hXX : (X.toList == X.toList) = true := by simp
          have HX := Lib.hid (And.intro hxk (And.intro hxn (And.intro hXl (And.intro hXs (And.intro hlt (And.intro hmx (And.intro hal hac)))))))
          clear hac hxk hxn hX hXl hXs hlt hp1 hp2 hpr hP hPl hPs hpa hpa' hmx hal
          go_wp2_with (fail)
          with_reducible refine (HPR.out _).mono ?_
          rintro e w5 ⟨rfl, hb⟩
          have B5 := Lib.hid (hB4.out.trans (hb.mono hB4.out.size))
          clear hb
          go_wp2_with (fail)
          with_reducible refine (HPA.out _).mono ?_
          rintro e w6 ⟨rfl, hb⟩
          have B6 := Lib.hid (B5.out.trans (hb.mono B5.out.size))
          clear hb
          rcases Nat.eq_zero_or_pos k with rfl | hkp
          · go_wp2_with (fail)
            go_roundg (U.length - 1)
            case measure => have := hg.out; have := HX.out.2.2.2.2.1; omega
            case rel => exact ⟨1, by go_num, (by show _ = _; have := HX.out.2.2.2.2.1; omega), B6.out⟩
          · obtain ⟨j, hj⟩ : ∃ j, k = j + 1 := ⟨k - 1, by omega⟩
            obtain ⟨y, hyj⟩ : ∃ y, U[j]? = some y := ⟨_, List.getElem?_eq_getElem (by have := HX.out.2.2.2.2.1; omega)⟩
            have hyn := HF.out.2.1 y (List.mem_of_getElem? hyj)
            obtain ⟨Y, hY⟩ : ∃ X : ByteArray, (⟨y.toArray⟩ : ByteArray) = X := ⟨_, rfl⟩
            have hYl : Y.data.toList = y := by rw [← hY]
            have hYs := HX.out.2.2.2.2.2.1 y Y hyn hYl
            have a1 : w6.cell? ⟨b0, o + j, none⟩ = some (.string Y) := ((B6.out.cell (p := ⟨b0, o + j, none⟩) HX.out.2.2.2.2.2.2.1)).trans (by rw [← hY]; exact HX.out.2.2.2.2.2.2.2 j _ (strs_get hyj))
            have hpw : ∀ (i i' : Nat) (u v : Bs), i < i' → U[i]? = some u → U[i']? = some v → cmpL (ris u) (ris v) < 0 := fun i i' u v hii hu hv => by
              obtain ⟨q1, rfl⟩ := List.getElem?_eq_some_iff.1 hu
              obtain ⟨q2, rfl⟩ := List.getElem?_eq_some_iff.1 hv
              exact List.pairwise_iff_getElem.1 HF.out.1 i i' q1 q2 hii
            have hlr := hpw j k y x (by omega) hyj HX.out.1
            have hles := fun W => Less_any Y X hYs HX.out.2.2.2.1 W
            rw [hYl, HX.out.2.2.1, less_ris hyn HX.out.2.1 hlr] at hles
            have HLE := Lib.hid hles
            have hkU := HX.out.2.2.2.2.1
            have hjU : (j : Int) < (U.length : Int) := by omega
            have hjI : (j : Int) ≤ 40 := by omega
            have hkI : (k : Int) ≤ 40 := by omega
            have e0 : ((k : Int) == 0) = false := by simp; omega
            have e1 : (k : Int) - 1 = (j : Int) := by omega
            have e2 : 0 < (k : Int) := by omega
            by_cases hlast : k + 1 = U.length
            · have e3 : ((k : Int) + 1 == (U.length : Int)) = true := by simp; omega
              have HE := Lib.hid (And.intro hlast hkU)
              clear hyj hyn hY hYl hYs hpw hles hlr hj hkp hkU hlast
              go_wp2_with (fail)
              with_reducible refine (HLE.out _).mono ?_
              rintro e w7 ⟨rfl, hb⟩
              have B7 := Lib.hid (B6.out.trans (hb.mono B6.out.size))
              clear hb
              go_wp2_with (fail)
              go_roundg (U.length - (k + 1))
              case measure => have := hg.out; have := HE.out; omega
              case rel => exact ⟨k + 1, by go_num, (by show _ = _; have := HE.out; omega), B7.out⟩
            · obtain ⟨q, hq⟩ : ∃ q, k + 1 = q := ⟨_, rfl⟩
              obtain ⟨z, hzq⟩ : ∃ z, U[q]? = some z := ⟨_, List.getElem?_eq_getElem (by omega)⟩
              have hzn := HF.out.2.1 z (List.mem_of_getElem? hzq)
              obtain ⟨Z, hZ⟩ : ∃ X : ByteArray, (⟨z.toArray⟩ : ByteArray) = X := ⟨_, rfl⟩
              have hZl : Z.data.toList = z := by rw [← hZ]
              have hZs := HX.out.2.2.2.2.2.1 z Z hzn hZl
              have hrz := hpw k q x z (by omega) HX.out.1 hzq
              have hmid := com_mid hyn HX.out.2.1 hzn hlr hrz
              have hcn := com_name hyn hzn
              have hcom := fun W => Common_yes Y Z hYs hZs (by rw [hYl]; exact hyn) (by rw [hZl]; exact hzn) W
              rw [hYl, hZl] at hcom
              obtain ⟨C, hC⟩ : ∃ C : ByteArray, (⟨(comB y z).toArray⟩ : ByteArray) = C := ⟨_, rfl⟩
              have hCl : C.data.toList = comB y z := by rw [← hC]
              rw [hC] at hcom
              have hCs := HX.out.2.2.2.2.2.1 _ C hcn hCl
              have hwi := fun W => Within_any X C HX.out.2.2.2.1 hCs W
              rw [HX.out.2.2.1, hCl, hmid] at hwi
              have HCO := Lib.hid hcom
              have HWI := Lib.hid hwi
              have z0 : ∀ W, Below w3.heap.size w3 W → W.cell? ⟨b0, o + q, none⟩ = some (.string Z) := fun W hW => (hW.cell (p := ⟨b0, o + q, none⟩) HX.out.2.2.2.2.2.2.1).trans (by rw [← hZ]; exact HX.out.2.2.2.2.2.2.2 q _ (strs_get hzq))
              have y0 : ∀ W, Below w3.heap.size w3 W → W.cell? ⟨b0, o + j, none⟩ = some (.string Y) := fun W hW => (hW.cell (p := ⟨b0, o + j, none⟩) HX.out.2.2.2.2.2.2.1).trans (by rw [← hY]; exact HX.out.2.2.2.2.2.2.2 j _ (strs_get hyj))
              have e3 : ((k : Int) + 1 == (U.length : Int)) = false := by simp; omega
              have hqU : (q : Int) < (U.length : Int) := by have := (List.getElem?_eq_some_iff.1 hzq).1; omega
              have HE := Lib.hid (And.intro hq (And.intro hkU (And.intro y0 z0)))
              have hqk : (q : Int) = (k : Int) + 1 := by omega
              have HQ := Lib.hid hqk
              clear hyj hyn hY hYl hYs hpw hles hlr hj hkp hkU hlast hq hzq hzn hZ hZl hZs hrz hmid hcn hcom hC hCl hCs hwi z0 y0 hqk
              go_wp2_with (fail)
              with_reducible refine (HLE.out _).mono ?_
              rintro e w7 ⟨rfl, hb⟩
              have B7 := Lib.hid (B6.out.trans (hb.mono B6.out.size))
              clear hb a1 a0
              go_wp2_with (fail)
              have c0 := HE.out.2.2.1 w7 B7.out
              have c1 := HE.out.2.2.2 w7 B7.out
              have hgl : b0 < w7.heap.size := Nat.lt_of_lt_of_le HX.out.2.2.2.2.2.2.1 B7.out.size
              have hrefl : Below w7.heap.size w7 w7 := Below.refl _ _
              have hw1 : IntKind.i64.wrap ((k : Int) - 1) = (j : Int) := by rw [IntKind.wrap_i64]; omega
              have hw2 : IntKind.i64.wrap ((k : Int) + 1) = (q : Int) := by have := HQ.out; rw [IntKind.wrap_i64]; omega
              clear e1
              go_region_held3 (fun w' => w'.cell? ⟨b0, o + j, none⟩ = some (.string Y) ∧ w'.cell? ⟨b0, o + q, none⟩ = some (.string Z) ∧ w7.heap.size ≤ w'.heap.size ∧ Below w7.heap.size w7 w')
                (first | assumption | exact ⟨c0, c1, Nat.le_refl _, hrefl⟩ | exact k2D (by assumption) | exact k2D ⟨c0, c1, Nat.le_refl _, hrefl⟩ | exact k2C hgl (by assumption) hb | exact k2C hgl (k2D (by assumption)) hb | exact k2C hgl (k2D ⟨c0, c1, Nat.le_refl _, hrefl⟩) hb | exact k2C hgl ⟨c0, c1, Nat.le_refl _, hrefl⟩ hb)
                (first
                  | (go_at_call 33; refine (HCO.out _).mono ?_; rintro e w' ⟨rfl, hb⟩; have hbs := hb.size))
              have hcc : w'.cell? ⟨b0, o + j, none⟩ = some (.string Y) ∧ w'.cell? ⟨b0, o + q, none⟩ = some (.string Z) ∧ w7.heap.size ≤ w'.heap.size ∧ Below w7.heap.size w7 w' := by assumption
              have B8 := Lib.hid (B7.out.trans (hcc.2.2.2.mono B7.out.size))
              clear hcc hw1 hw2 c0 c1 hrefl
              go_wp2_with (fail)
              with_reducible refine (HWI.out _).mono ?_
              rintro e w9 ⟨rfl, hb⟩
              have B9 := Lib.hid (B8.out.trans (hb.mono B8.out.size))
              clear hb
              go_wp2_with (fail)
              go_roundg (U.length - (k + 1))
              case measure => have := hg.out; have := HE.out.2.1; omega
              case rel => exact ⟨k + 1, by go_num, (by show _ = _; have := HE.out.2.1; omega), B9.out⟩
        · have hltI : ¬ (k : Int) < (U.length : Int) := by omega
          have B5 := Lib.hid (B3.out.trans (hB4.out.mono B3.out.size))
          clear hlt
          go_wp2_with (fail)
          go_ret
          exact ⟨rfl, B5.out⟩
end Go.Proofs.Ytjhhhkhcnohmiaa
