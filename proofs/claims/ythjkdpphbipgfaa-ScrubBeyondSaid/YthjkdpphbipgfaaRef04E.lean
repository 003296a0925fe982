/- The walks of the reference's Names, Fold (hardtackref04). Conditions: none. -/
import Derived.Test.YthjkdpphbipgfaaRef04C
namespace Go.Proofs.Ythjkdpphbipgfaa
open Go.RowKit Go.Lib

theorem foldB_append (x y : Bs) : foldB (x ++ y) = foldB x ++ foldB y := by simp [foldB]
theorem namesPost_nil {q : Option (Bs × List Bs × Bs)} {w w' : World} (h : q = none) (hb : Below w.heap.size w w') : NamesPost q w (.returned (.slice none 0 0)) w' := by
  subst h
  exact ⟨none, 0, rfl, Sl.nil _ _, (fun i hi => by cases hi), hb⟩
theorem namesPost_some {q : Option (Bs × List Bs × Bs)} {p : Bs × List Bs × Bs} {w w' : World} {A : Option Addr} {c : Nat} (h : q = some p) (hS : Sl w' 1 (.slice A p.2.1.length c) p.2.1.length (strs p.2.1)) (hO : ∀ i, (Value.slice A p.2.1.length c).ownBlock = some i → w.heap.size ≤ i) (hb : Below w.heap.size w w') :
    NamesPost q w (.returned (.slice A p.2.1.length c)) w' := by
  subst h
  exact ⟨A, c, rfl, hS, hO, hb⟩
/-- What the reference's split tells of right data. -/
theorem split_good {t : Int} {l : Bs} {f p} (hf : formN t = some f) (hc : cutN f l = some p) {w w' : World} {e : Ending} (h : SplitPost4 t l w e w') :
    ∃ (S1 r : ByteArray) (A : Option Addr) (c : Nat), S1.data.toList = p.1 ∧ r.data.toList = p.2.2 ∧ e = .returned (.tuple #[.string S1, .slice A p.2.1.length c, .string r, .bool true]) ∧ Sl w' 1 (.slice A p.2.1.length c) p.2.1.length (strs p.2.1) ∧
      (∀ i, (Value.slice A p.2.1.length c).ownBlock = some i → w.heap.size ≤ i) ∧ Below w.heap.size w w' := by
  rcases h with ⟨hq, _, _⟩ | ⟨ns, S1, r, A, c, b, hq, h1, he, hbb, hS, hO, hb⟩
  · rw [splitN_none hf hq] at hc; cases hc
  · rw [splitN_some hf hq] at hc
    split at hc
    · rename_i hr
      injection hc with hc
      subst hc
      have hb1 : b = true := hbb.2 (by rw [← hr]; simp)
      subst hb1
      exact ⟨S1, r, A, c, h1, rfl, he, hS, hO, hb⟩
    · cases hc

set_option maxRecDepth 100000 in
set_option maxHeartbeats 4000000 in
theorem rNames4_any (t : Int) (s : ByteArray) (hs : s.size ≤ 1000000) (w : World) : Calls Try.prog 43 #[.int .u16 t, .string s] w (NamesPost (lookN t s.data.toList) w) := by
  have HPA := Lib.hid (fun W => rParts_any t W)
  cases hf : formN t with
  | none =>
    have HLK : RowKit.Hid (lookN t s.data.toList = none) := Lib.hid (by unfold lookN; rw [hf])
    rw [hf] at HPA
    clear hf hs
    go_enter Try.func43, Try.ntmps43
    go_wp2_with (fail)
    with_reducible refine (HPA.out _).mono ?_
    rintro e w1 ⟨rfl, rfl⟩
    clear HPA
    go_wp2_with (fail)
    go_ret
    exact namesPost_nil HLK.out (Below.refl _ _)
  | some f =>
    have HCK := Lib.hid (fun W => rCheck4_any t s hs W)
    have HSP := Lib.hid (fun W => rSplit4_any t s hs W)
    rw [hf] at HPA
    cases hok : okD t s.data.toList with
    | false =>
      rw [chk_no hok] at HCK
      have HLK := Lib.hid (look_bad hf hok)
      clear hf hs hok
      go_enter Try.func43, Try.ntmps43
      go_wp2_with (fail)
      with_reducible refine (HPA.out _).mono ?_
      rintro e w1 ⟨rfl, rfl⟩
      clear HPA
      go_wp2_with (fail)
      with_reducible refine (HCK.out _).mono ?_
      rintro e w2 ⟨rfl, hb⟩
      have HB := Lib.hid hb
      clear hb HCK
      go_wp2_with (fail)
      go_ret
      exact namesPost_nil HLK.out HB.out
    | true =>
      rw [chk_ok hok] at HCK
      obtain ⟨p, hlk, hcu⟩ := look_good hf hok
      have HLK := Lib.hid (And.intro hlk (And.intro hcu hf))
      clear hf hs hok hlk hcu
      go_enter Try.func43, Try.ntmps43
      go_wp2_with (fail)
      with_reducible refine (HPA.out _).mono ?_
      rintro e w1 ⟨rfl, rfl⟩
      clear HPA
      go_wp2_with (fail)
      with_reducible refine (HCK.out _).mono ?_
      rintro e w2 ⟨rfl, hb⟩
      have HB := Lib.hid hb
      clear hb HCK
      go_wp2_with (fail)
      with_reducible refine (HSP.out _).mono ?_
      rintro e w3 hp
      obtain ⟨S1, r, A, c, _, _, rfl, hS, hO, hb⟩ := split_good HLK.out.2.2 HLK.out.2.1 hp
      have HX := Lib.hid (And.intro hS (And.intro hO hb))
      clear hp hS hO hb HSP
      go_wp2_with (fail)
      go_ret
      exact namesPost_some HLK.out.1 HX.out.1 (fun i hi => Nat.le_trans HB.out.size (HX.out.2.1 i hi)) (HB.out.trans (HX.out.2.2.mono HB.out.size))

end Go.Proofs.Ythjkdpphbipgfaa
