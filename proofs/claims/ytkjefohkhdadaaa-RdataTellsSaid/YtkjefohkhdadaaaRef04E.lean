/- The walks of the reference's Names, Fold (hardtackref04). Conditions: none. -/
import Derived.Test.YtkjefohkhdadaaaRef04D
namespace Go.Proofs.Ytkjefohkhdadaaa
open Go.RowKit Go.Lib

theorem foldB_append (x y : Bs) : foldB (x ++ y) = foldB x ++ foldB y := by simp [foldB]
theorem namesPost_nil {q : Option (Bs × List Bs × Bs)} {w w' : World} (h : q = none) (hb : Below w.heap.size w w') : NamesPost q w (.returned (.slice none 0 0)) w' := by
  subst h
  exact ⟨none, 0, rfl, Sl.nil _ _, (fun i hi => by cases hi), hb⟩
theorem namesPost_some {q : Option (Bs × List Bs × Bs)} {p : Bs × List Bs × Bs} {w w' : World} {A : Option Addr} {c : Nat} (h : q = some p) (hS : Sl w' 1 (.slice A p.2.1.length c) p.2.1.length (strs p.2.1)) (hO : ∀ i, (Value.slice A p.2.1.length c).ownBlock = some i → w.heap.size ≤ i) (hb : Below w.heap.size w w') :
    NamesPost q w (.returned (.slice A p.2.1.length c)) w' := by
  subst h
  exact ⟨A, c, rfl, hS, hO, hb⟩
/-- What the reference's split tells of right data. -/
theorem split_good {t : Int} {l : Bs} {f p} (hf : formN t = some f) (hc : cutN f l = some p) {w w' : World} {e : Ending} (h : SplitPost4 t l w e w') :
    ∃ (S1 r : ByteArray) (A : Option Addr) (c : Nat), S1.data.toList = p.1 ∧ r.data.toList = p.2.2 ∧ e = .returned (.tuple #[.string S1, .slice A p.2.1.length c, .string r, .bool true]) ∧ Sl w' 1 (.slice A p.2.1.length c) p.2.1.length (strs p.2.1) ∧
      (∀ i, (Value.slice A p.2.1.length c).ownBlock = some i → w.heap.size ≤ i) ∧ Below w.heap.size w w' := by
  rcases h with ⟨hq, _, _⟩ | ⟨ns, S1, r, A, c, b, hq, h1, he, hbb, hS, hO, hb⟩
  · rw [splitN_none hf hq] at hc; cases hc
  · rw [splitN_some hf hq] at hc
    split at hc
    · rename_i hr
      injection hc with hc
      subst hc
      have hb1 : b = true := hbb.2 (by rw [← hr]; simp)
      subst hb1
      exact ⟨S1, r, A, c, h1, rfl, he, hS, hO, hb⟩
    · cases hc

set_option maxRecDepth 100000 in
set_option maxHeartbeats 4000000 in
theorem rNames4_any (t : Int) (s : ByteArray) (hs : s.size ≤ 1000000) (w : World) : Calls Try.prog 59 #[.int .u16 t, .string s] w (NamesPost (lookN t s.data.toList) w) := by
  have HPA := Lib.hid (fun W => rParts_any t W)
  cases hf : formN t with
  | none =>
    have HLK : RowKit.Hid (lookN t s.data.toList = none) := Lib.hid (by unfold lookN; rw [hf])
    rw [hf] at HPA
    clear hf hs
    go_enter Try.func59, Try.ntmps59
    go_wp2_with (fail)
    with_reducible refine (HPA.out _).mono ?_
    rintro e w1 ⟨rfl, rfl⟩
    clear HPA
    go_wp2_with (fail)
    go_ret
    exact namesPost_nil HLK.out (Below.refl _ _)
  | some f =>
    have HCK := Lib.hid (fun W => rCheck4_any t s hs W)
    have HSP := Lib.hid (fun W => rSplit4_any t s hs W)
    rw [hf] at HPA
    cases hok : okD t s.data.toList with
    | false =>
      rw [chk_no hok] at HCK
      have HLK := Lib.hid (look_bad hf hok)
      clear hf hs hok
      go_enter Try.func59, Try.ntmps59
      go_wp2_with (fail)
      with_reducible refine (HPA.out _).mono ?_
      rintro e w1 ⟨rfl, rfl⟩
      clear HPA
      go_wp2_with (fail)
      with_reducible refine (HCK.out _).mono ?_
      rintro e w2 ⟨rfl, hb⟩
      have HB := Lib.hid hb
      clear hb HCK
      go_wp2_with (fail)
      go_ret
      exact namesPost_nil HLK.out HB.out
    | true =>
      rw [chk_ok hok] at HCK
      obtain ⟨p, hlk, hcu⟩ := look_good hf hok
      have HLK := Lib.hid (And.intro hlk (And.intro hcu hf))
      clear hf hs hok hlk hcu
      go_enter Try.func59, Try.ntmps59
      go_wp2_with (fail)
      with_reducible refine (HPA.out _).mono ?_
      rintro e w1 ⟨rfl, rfl⟩
      clear HPA
      go_wp2_with (fail)
      with_reducible refine (HCK.out _).mono ?_
      rintro e w2 ⟨rfl, hb⟩
      have HB := Lib.hid hb
      clear hb HCK
      go_wp2_with (fail)
      with_reducible refine (HSP.out _).mono ?_
      rintro e w3 hp
      obtain ⟨S1, r, A, c, _, _, rfl, hS, hO, hb⟩ := split_good HLK.out.2.2 HLK.out.2.1 hp
      have HX := Lib.hid (And.intro hS (And.intro hO hb))
      clear hp hS hO hb HSP
      go_wp2_with (fail)
      go_ret
      exact namesPost_some HLK.out.1 HX.out.1 (fun i hi => Nat.le_trans HB.out.size (HX.out.2.1 i hi)) (HB.out.trans (HX.out.2.2.mono HB.out.size))

set_option maxRecDepth 100000 in
set_option maxHeartbeats 4000000 in
theorem rFold4_any (t : Int) (s : ByteArray) (hs : s.size ≤ 1000000) (w : World) : Calls Try.prog 61 #[.int .u16 t, .string s] w fun e w' => e = .returned (.string ⟨(foldD t s.data.toList).toArray⟩) ∧ Below w.heap.size w w' := by
  have HN := Lib.hid (rNames4_any t s hs w)
  have HSP := Lib.hid (fun W => rSplit4_any t s hs W)
  have hll : s.data.toList.length = s.size := by simp
  unfold NamesPost at HN
  cases hq : lookN t s.data.toList with
  | none =>
    rw [hq] at HN
    have HR : RowKit.Hid ((⟨(foldD t s.data.toList).toArray⟩ : ByteArray) = s) := Lib.hid (ba_eq (by unfold foldD; rw [hq]))
    clear hq hs hll
    go_enter Try.func61, Try.ntmps61
    go_wp2_with (fail)
    with_reducible refine HN.out.mono ?_
    rintro e w1 ⟨A, c, rfl, _, _, hb⟩
    have HB := Lib.hid hb
    clear hb HN
    go_wp2_with (fail)
    go_ret
    exact ⟨by rw [HR.out]; rfl, HB.out⟩
  | some p =>
    obtain ⟨f, hf⟩ : ∃ f, formN t = some f := by
      cases hf : formN t with
      | some f => exact ⟨f, rfl⟩
      | none => unfold lookN at hq; rw [hf] at hq; cases hq
    have hcu := look_cut hf hq
    have hcl := cutN_len hcu
    have hfl := formN_le' hf
    obtain ⟨pa, ns, pb⟩ := p
    rw [hq] at HN
    dsimp only [Option.map, Option.getD] at HN
    dsimp only at hcl
    have hsz : pa.length + (ns.flatten.length + pb.length) = s.size := by
      rw [← hll, hcl.1]; simp only [List.length_append]
    have hn1 : 1 ≤ ns.length := by
      have : f.2.1 = 1 ∨ f.2.1 = 2 := by
        unfold formN at hf
        split at hf
        · cases hf; exact .inl rfl
        · split at hf
          · cases hf; exact .inl rfl
          · split at hf
            · cases hf; exact .inl rfl
            · split at hf
              · cases hf; exact .inr rfl
              · cases hf
      have := hcl.2.2.1; omega
    have hn2 : ns.length ≤ 2 := by have := hcl.2.2.1; omega
    have hd0 : ((ns.length : Int) == 0) = false := by rw [beq_eq_false_iff_ne]; omega
    have hnI : (ns.length : Int) ≤ 2 := by omega
    have HF := Lib.hid (And.intro hq (And.intro hf (And.intro hcu (And.intro hsz (And.intro hs hcl.2.2.2.2)))))
    clear hq hs hll hf hcu hcl hfl hsz hn1 hn2
    go_enter Try.func61, Try.ntmps61
    go_wp2_with (fail)
    with_reducible refine HN.out.mono ?_
    rintro e w1 ⟨A, c, rfl, hS, _, hb⟩
    have HB := Lib.hid (And.intro hS hb)
    clear hS hb HN
    go_wp2_with (fail)
    with_reducible refine (HSP.out _).mono ?_
    rintro e w2 hp
    obtain ⟨S1, r, A2, c2, hS1, hr, rfl, _, _, hb⟩ := split_good HF.out.2.1 HF.out.2.2.1 hp
    dsimp only at hS1 hr
    have hT := ttab_of_sl (w := w1) (A := A) (c := c) (xs := strs ns) (by rw [show (strs ns).length = ns.length by simp [strs]]; exact HB.out.1)
    have hsl : S1.size + (ns.flatten.length + r.size) = s.size := by
      have h1 : S1.data.toList.length = S1.size := by simp
      have h2 : r.data.toList.length = r.size := by simp
      rw [← h1, ← h2, hS1, hr]; exact HF.out.2.2.2.1
    have HX := Lib.hid (And.intro hT (And.intro hb (And.intro hS1 (And.intro hr hsl))))
    clear hp hb hS1 hr hsl hT HSP
    go_wp2_with (fail)
    go_loopg [6, 29] ns.length (fun gg v6 v29 wr => ∃ (k : Nat) (X : ByteArray), v6 = .string X ∧ v29 = .int .i64 (k : Int) ∧ Aside (gg + k = ns.length ∧ X.data.toList = pa ++ foldB (ns.take k).flatten ∧ X.size = S1.size + (ns.take k).flatten.length) ∧ Aside (Below w2.heap.size w2 wr))
    case atStart => exact ⟨0, S1, rfl, rfl, ⟨rfl, by rw [HX.out.2.2.1]; simp [foldB], by simp⟩, Below.refl _ _⟩
    case round =>
      obtain ⟨k, X, rfl, rfl, hg, hb⟩ := hrel
      by_cases hk : k < ns.length
      · have hkI : (k : Int) < (ns.length : Int) := by omega
        obtain ⟨x, hx⟩ : ∃ x, ns[k]? = some x := ⟨_, List.getElem?_eq_getElem hk⟩
        obtain ⟨b8, o8, rfl, hlt8, hc8⟩ := HX.out.1.at (strs_at hx)
        have e8 : wr.cell? ⟨b8, o8 + k, none⟩ = some (.string ⟨x.toArray⟩) := (((HX.out.2.1.trans (hb.out.mono HX.out.2.1.size)).cell (p := ⟨b8, o8 + k, none⟩) hlt8)).trans hc8
        obtain ⟨N, hN⟩ : ∃ N : ByteArray, (⟨x.toArray⟩ : ByteArray) = N := ⟨_, rfl⟩
        rw [hN] at e8
        have hNd : N.data.toList = x := by subst hN; rfl
        have hNs : N.size = x.length := by rw [← hNd]; simp
        have hxl := flatten_take hx
        have hsN : N.size ≤ 1000000 := by have := HX.out.2.2.2.2; have := HF.out.2.2.2.2.1; omega
        have HFO := Lib.hid (fun W => rFold_any N (by omega) W)
        obtain ⟨Q, hQ⟩ : ∃ Q : ByteArray, (⟨(foldB N.data.toList).toArray⟩ : ByteArray) = Q := ⟨_, rfl⟩
        rw [hQ] at HFO
        have hQd : Q.data.toList = foldB x := by subst hQ; rw [hNd]
        have hQs : Q.size = x.length := by
          have : Q.data.toList.length = Q.size := by simp
          rw [← this, hQd, foldB_length]
        have s3 : ¬ 9223372036854775807 < X.size + Q.size := by have := hg.out.2.2; have := HX.out.2.2.2.2; have := HF.out.2.2.2.2.1; omega
        have htk : ns.take (k + 1) = ns.take k ++ [x] := by rw [List.take_add_one, hx]; rfl
        have HS := Lib.hid (And.intro hk (And.intro hQd (And.intro hQs htk)))
        clear hk hx hN hNd hNs hxl hsN hQ hQd hQs htk hc8
        go_wp2_with (fail)
        with_reducible refine (HFO.out _).mono ?_
        rintro e w4 ⟨rfl, hb4⟩
        have B4 := Lib.hid (hb.out.trans (hb4.mono hb.out.size))
        clear hb4 HFO
        go_wp2_with (fail)
        go_roundg (ns.length - (k + 1))
        case measure => have := hg.out.1; have := HS.out.1; omega
        case rel =>
          refine ⟨k + 1, X ++ Q, rfl, by go_num, ⟨by have := HS.out.1; omega, ?_, ?_⟩, B4.out⟩
          · rw [ByteArray.data_append, Array.toList_append, HS.out.2.1, hg.out.2.1, HS.out.2.2.2]
            simp [foldB_append]
          · rw [ByteArray.size_append, hg.out.2.2, HS.out.2.2.1, HS.out.2.2.2]
            simp; omega
      · have hkI : ¬ (k : Int) < (ns.length : Int) := by omega
        have htk : ns.take k = ns := List.take_of_length_le (by omega)
        have hXd := hg.out.2.1
        have hXs := hg.out.2.2
        rw [htk] at hXd hXs
        have s3 : ¬ 9223372036854775807 < X.size + r.size := by have := HX.out.2.2.2.2; have := HF.out.2.2.2.2.1; omega
        have hfin : (X ++ r) = (⟨(foldD t s.data.toList).toArray⟩ : ByteArray) := by
          apply ba_eq
          unfold foldD
          rw [HF.out.1]
          dsimp only
          rw [ByteArray.data_append, Array.toList_append, hXd, HX.out.2.2.2.1]
        have HFIN := Lib.hid hfin
        clear hk htk hXd hXs hfin
        go_wp2_with (fail)
        go_ret
        exact ⟨congrArg (fun x => Ending.returned (Value.string x)) HFIN.out, HB.out.2.trans ((HX.out.2.1.trans (hb.out.mono HX.out.2.1.size)).mono HB.out.2.size)⟩
end Go.Proofs.Ytkjefohkhdadaaa
