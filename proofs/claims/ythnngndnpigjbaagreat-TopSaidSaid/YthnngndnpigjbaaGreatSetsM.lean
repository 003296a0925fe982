/- Sets in plain words: when one is right. No program in sight. Conditions: none. The walk of sets.Check. Conditions: none. -/
import Derived.Test.YthnngndnpigjbaaGreatRdFoldS
import Derived.Test.YthnngndnpigjbaaGreatOrd
import Derived.Lib.Bytealg
import Derived.Laws.Cover1
import Derived.Test.YthnngndnpigjbaaGreatSTab
import Derived.Deep.DeepCutAuto
namespace Go.Proofs.YthnngndnpigjbaaGreat
open Go.RowKit Go.Lib

theorem ltS_not (a b : Bs) : (ltS a b || a == b) = !(ltS b a) := by
  have T := lexC_tot cB_tot
  rw [ltS_lex, ltS_lex]
  have h1 := T.anti a b
  have h0 := T.zero a b
  rcases Int.lt_trichotomy (lexC cB a b) 0 with h | h | h
  · have : ¬ lexC cB b a < 0 := by omega
    simp [h, this]
  · have e := h0.1 h
    subst e
    simp [h]
  · have h2 : ¬ lexC cB a b < 0 := by omega
    have h3 : lexC cB b a < 0 := by omega
    have h4 : a ≠ b := fun e => by have := h0.2 e; omega
    simp [h2, h3, h4]
theorem leq_str (a b : ByteArray) : (Op.bytesLess a.toList b.toList || a.toList == b.toList) = !(ltS b.data.toList a.data.toList) := by
  rw [ByteArray.toList_eq, ByteArray.toList_eq]
  exact ltS_not _ _
/-- Does a list of texts rise? -/
def riseL : List Bs → Bool
  | [] => true
  | [_] => true
  | a :: b :: r => ltS a b && riseL (b :: r)
theorem riseL_snoc : ∀ (l : List Bs) (x y : Bs), riseL (l ++ [x, y]) = (riseL (l ++ [x]) && ltS x y)
  | [], x, y => by simp [riseL]
  | [a], x, y => by simp [riseL, Bool.and_assoc]
  | a :: b :: r, x, y => by
    have := riseL_snoc (b :: r) x y
    simp only [List.cons_append, riseL] at this ⊢
    rw [this, Bool.and_assoc]
def foldX (t : Int) (x : ByteArray) : Bs := foldD t x.data.toList
/-- Is a set right? -/
def setOk (n : ByteArray) (t l : Int) (xs : List ByteArray) : Bool :=
  isName n.data.toList && (decide (l ≤ 2147483647) && (decide (0 < xs.length) && (decide (xs.length ≤ 64) && (xs.all (fun x => okD t x.data.toList) && riseL (xs.map (foldX t))))))
def setCode (n : ByteArray) (t l : Int) (xs : List ByteArray) : Int := if setOk n t l xs = true then 0 else 2
theorem riseL_take {l : List Bs} (h : riseL l = true) : ∀ k, riseL (l.take k) = true := by
  induction l with
  | nil => intro k; simp [riseL]
  | cons a r ih =>
    intro k
    match k, r with
    | 0, _ => rfl
    | 1, _ => rfl
    | k + 2, [] => rfl
    | k + 2, b :: r =>
      simp only [riseL, Bool.and_eq_true] at h
      have := ih h.2 (k + 1)
      simp only [List.take_succ_cons, riseL, Bool.and_eq_true] at this ⊢
      exact ⟨h.1, this⟩
theorem okD_len {t : Int} {l : Bs} (h : okD t l = true) : l.length ≤ 4096 := by
  unfold okD at h
  simp only [Bool.and_eq_true, decide_eq_true_eq] at h
  exact h.1
theorem foldD_len (t : Int) (l : Bs) : (foldD t l).length = l.length := by
  unfold foldD
  cases h : lookN t l with
  | none => rfl
  | some p =>
    unfold lookN at h
    split at h
    · cases h
    · rename_i f hf
      split at h
      · have := (cutN_len h).1
        dsimp only
        rw [this]
        simp only [List.length_append, foldB_length]
        omega
      · cases h
end Go.Proofs.YthnngndnpigjbaaGreat

namespace Go.Proofs.YthnngndnpigjbaaGreat
open Go.RowKit Go.Lib

def setV (n : ByteArray) (t l : Int) (A : Option Addr) (xs : List ByteArray) (c : Nat) : Value := .agg #[.string n, .int .u16 t, .int .u32 l, .slice A xs.length c]
theorem rdCheck_big (t : Int) (s : ByteArray) (hs : 140737488355328 < s.size) (hm : s.size ≤ maxLen) (w : World) : Calls Tryz.prog 47 #[.int .u16 t, .string s] w fun e w' => e = .returned (.int .i64 2) ∧ Below w.heap.size w w' := by
  have h1 : ¬ (s.size : Int) ≤ 4096 := by omega
  go_enter Tryz.func47, Tryz.ntmps47
  go_wp2_with (fail)
  go_ret
  exact ⟨rfl, Below.refl _ _⟩
theorem rdCheck_all (t : Int) (s : ByteArray) (hm : s.size ≤ maxLen) (w : World) : Calls Tryz.prog 47 #[.int .u16 t, .string s] w fun e w' => e = .returned (.int .i64 (chkD t s.data.toList)) ∧ Below w.heap.size w w' := by
  by_cases h : s.size ≤ 140737488355328
  · exact rdCheck_any t s h w
  · have : okD t s.data.toList = false := by
      cases hq : okD t s.data.toList with
      | false => rfl
      | true => have := okD_len hq; simp at this; omega
    rw [chk_no this]
    exact rdCheck_big t s (by omega) hm w
theorem setOk_not {n : ByteArray} {t l : Int} {xs : List ByteArray} (h : setOk n t l xs = false) : setCode n t l xs = 2 := by unfold setCode; rw [h]; rfl
theorem setOk_yes {n : ByteArray} {t l : Int} {xs : List ByteArray} (h : setOk n t l xs = true) : setCode n t l xs = 0 := by unfold setCode; rw [h]; rfl
theorem setOk_item {n : ByteArray} {t l : Int} {xs : List ByteArray} {i : Nat} {x : ByteArray} (hx : xs[i]? = some x) (h : okD t x.data.toList = false) : setOk n t l xs = false := by
  unfold setOk
  have : (xs.all fun x => okD t x.data.toList) = false := by
    rw [List.all_eq_false]
    exact ⟨x, List.mem_of_getElem? hx, by rw [h]; simp⟩
  rw [this]
  simp
theorem take_two {α : Type} {xs : List α} {i : Nat} {x y : α} (hx : xs[i]? = some x) (hy : xs[i + 1]? = some y) : xs.take (i + 2) = xs.take i ++ [x, y] := by
  rw [List.take_add_one, List.take_add_one, hx, hy]
  simp
theorem setOk_order {n : ByteArray} {t l : Int} {xs : List ByteArray} {i : Nat} {x y : ByteArray} (hx : xs[i]? = some x) (hy : xs[i + 1]? = some y) (h : ltS (foldX t x) (foldX t y) = false) : setOk n t l xs = false := by
  unfold setOk
  have : riseL (xs.map (foldX t)) = false := by
    cases hr : riseL (xs.map (foldX t)) with
    | false => rfl
    | true =>
      have h2 := riseL_take hr (i + 2)
      rw [take_two (x := foldX t x) (y := foldX t y) (by rw [List.getElem?_map, hx]; rfl) (by rw [List.getElem?_map, hy]; rfl), riseL_snoc, h] at h2
      simp at h2
  rw [this]
  simp
/-- What the loop has seen. -/
structure Seen (t : Int) (xs : List ByteArray) (i : Nat) (last : ByteArray) : Prop where
  ok : ∀ x ∈ xs.take i, okD t x.data.toList = true
  rise : riseL ((xs.take i).map (foldX t)) = true
  last : ∀ j x, i = j + 1 → xs[j]? = some x → last.data.toList = foldX t x
theorem Seen.next {t : Int} {xs : List ByteArray} {i : Nat} {last : ByteArray} (h : Seen t xs i last) {x : ByteArray} (hx : xs[i]? = some x) (hok : okD t x.data.toList = true) (hlt : i = 0 ∨ ltS last.data.toList (foldX t x) = true) {l2 : ByteArray} (hl : l2.data.toList = foldX t x) : Seen t xs (i + 1) l2 := by
  have ht : xs.take (i + 1) = xs.take i ++ [x] := by rw [List.take_add_one, hx]; rfl
  refine ⟨fun y hy => ?_, ?_, fun j y hj hy => ?_⟩
  · rw [ht] at hy
    rcases List.mem_append.1 hy with hy | hy
    · exact h.ok y hy
    · rw [List.mem_singleton.1 hy]; exact hok
  · match i, hlt with
    | 0, _ => rw [ht]; simp [riseL]
    | i + 1, hlt =>
      rcases hlt with hlt | hlt
      · omega
      · obtain ⟨z, hz⟩ : ∃ z, xs[i]? = some z := ⟨_, List.getElem?_eq_getElem (by have := (List.getElem?_eq_some_iff.1 hx).1; omega)⟩
        have h1 := h.rise
        have e1 : xs.take (i + 1) = xs.take i ++ [z] := by rw [List.take_add_one, hz]; rfl
        rw [h.last i z rfl hz] at hlt
        rw [take_two hz hx, List.map_append, List.map_cons, List.map_cons, List.map_nil, riseL_snoc, hlt, Bool.and_true]
        rw [e1, List.map_append] at h1
        exact h1
  · have : j = i := by omega
    subst this
    rw [hx] at hy
    injection hy with hy
    rw [← hy]
    exact hl
theorem Seen.done {n : ByteArray} {t l : Int} {xs : List ByteArray} {last : ByteArray} (h : Seen t xs xs.length last) (h1 : isName n.data.toList = true) (h2 : l ≤ 2147483647) (h3 : 0 < xs.length ∧ xs.length ≤ 64) : setOk n t l xs = true := by
  have e := h.ok
  have r := h.rise
  rw [List.take_length] at e r
  unfold setOk
  rw [h1, r, List.all_eq_true.2 e]
  simp [h2, h3]
set_option maxRecDepth 100000 in
set_option maxHeartbeats 4000000 in
theorem checkS_any (n : ByteArray) (t l : Int) (A : Option Addr) (xs : List ByteArray) (c : Nat) (w : World) (hn : n.size ≤ maxLen) (hT : STab w A xs) (hx : ∀ x ∈ xs, x.size ≤ maxLen) (hl : xs.length ≤ 9223372036854775807) :
    Calls Tryz.prog 23 #[setV n t l A xs c] w fun e w' => e = .returned (.int .i64 (setCode n t l xs)) ∧ Below w.heap.size w w' := by
  have HC := Lib.hid (fun W => Check_any n hn W)
  have HN := Lib.hid (chk_cases n.data.toList)
  have HX := Lib.hid (And.intro hT hx)
  have hlI : (xs.length : Int) ≤ 9223372036854775807 := by omega
  clear hn hT hx hl
  unfold setV
  go_enter Tryz.func23, Tryz.ntmps23
  go_wp2_with (fail)
  obtain ⟨W1, hW1⟩ : ∃ W1, w.alloc (.cells #[.string n, .int .u16 t, .int .u32 l, .slice A xs.length c] 36) = W1 := ⟨_, rfl⟩
  have H1 := Lib.hid (show Below w.heap.size w W1 ∧ Blk W1 w.heap.size 36 #[.string n, .int .u16 t, .int .u32 l, .slice A xs.length c] from by
    rw [← hW1]
    exact ⟨(Below.refl _ _).alloc (Nat.le_refl _) _, Blk.new _ _ _⟩)
  rw [hW1]
  clear hW1
  with_reducible refine (HC.out _).mono ?_
  rintro e w2 ⟨rfl, hb⟩
  have H2 := Lib.hid (And.intro (H1.out.1.trans (hb.mono H1.out.1.size)) (H1.out.2.below hb H1.out.2.lt))
  clear hb H1
  rcases HN.out with ⟨h1, h2⟩ | ⟨h1, h2⟩
  case inr =>
    have HE := Lib.hid (setOk_not (t := t) (l := l) (xs := xs) (show setOk n t l xs = false from by unfold setOk; rw [h1]; rfl))
    rw [show chkN n.data.toList = 2 from h2]
    clear h1 h2
    go_wp2_with (fail)
    go_ret
    exact ⟨by rw [HE.out] <;> rfl, H2.out.1⟩
  rw [show chkN n.data.toList = 0 from h2]
  have HNM := Lib.hid h1
  clear h1 h2
  have s0 := H2.out.2.cell 0; have s1 := H2.out.2.cell 1; have s2 := H2.out.2.cell 2; have s3 := H2.out.2.cell 3
  by_cases hlt : 2147483647 < l
  · have HE := Lib.hid (setOk_not (show setOk n t l xs = false from by unfold setOk; rw [show decide (l ≤ 2147483647) = false by simp; omega]; simp))
    go_wp2_with (fail)
    go_ret
    exact ⟨by rw [HE.out] <;> rfl, H2.out.1⟩
  by_cases h0 : xs.length = 0
  · have e0 : ((xs.length : Int) == 0) = true := by rw [beq_iff_eq]; omega
    have HE := Lib.hid (setOk_not (show setOk n t l xs = false from by unfold setOk; rw [show decide (0 < xs.length) = false from decide_eq_false (by omega)]; simp))
    clear h0
    go_wp2_with (fail)
    go_ret
    exact ⟨by rw [HE.out] <;> rfl, H2.out.1⟩
  have e0 : ((xs.length : Int) == 0) = false := beq_eq_false_iff_ne.2 (by omega)
  by_cases h64 : 64 < xs.length
  · have h64I : (64 : Int) < (xs.length : Int) := by omega
    have HE := Lib.hid (setOk_not (show setOk n t l xs = false from by unfold setOk; rw [show decide (xs.length ≤ 64) = false from decide_eq_false (by omega)]; simp))
    clear h0 h64
    go_wp2_with (fail)
    go_ret
    exact ⟨by rw [HE.out] <;> rfl, H2.out.1⟩
  have h64I : ¬ (64 : Int) < (xs.length : Int) := by omega
  have HL := Lib.hid (show l ≤ 2147483647 ∧ 0 < xs.length ∧ xs.length ≤ 64 by omega)
  clear h0 h64
  go_wp2_with (fail)
  go_loopg [3, 4, 5, 6, 29] xs.length (fun gg v3 v4 v5 v6 v29 wr => ∃ (i : Nat) (last : ByteArray), v29 = .int .i64 (i : Int) ∧ v3 = .string last ∧ Aside (gg + i = xs.length) ∧ Aside (Seen t xs i last) ∧ Aside (Below w.heap.size w wr ∧ Blk wr w.heap.size 36 #[.string n, .int .u16 t, .int .u32 l, .slice A xs.length c]))
  case atStart => exact ⟨0, ⟨#[]⟩, rfl, rfl, (by show _ = _; omega), ⟨(by simp), rfl, fun j x hj => by omega⟩, H2.out⟩
  case round =>
    obtain ⟨i, last, rfl, rfl, hg, hS, hB⟩ := hrel
    by_cases hil : i < xs.length
    · have hilI : (i : Int) < (xs.length : Int) := by omega
      obtain ⟨x, hxx⟩ : ∃ x, xs[i]? = some x := ⟨_, List.getElem?_eq_getElem hil⟩
      obtain ⟨b, off, rfl, hbl, hcl⟩ := (HX.out.1.below hB.out.1) (by simpa using (show 0 < xs.length by omega))
      have cx : wr.cell? ⟨b, off + i, none⟩ = some (.string x) := hcl i _ (by rw [List.getElem?_map, hxx]; rfl)
      have hbl2 : b < wr.heap.size := hbl
      have t1 := hB.out.2.cell 1
      have hxs : x.size ≤ maxLen := HX.out.2 x (List.mem_of_getElem? hxx)
      have HCD := Lib.hid (fun W => rdCheck_all t x hxs W)
      have HX2 := Lib.hid (And.intro hxx hil)
      cases hok : okD t x.data.toList with
      | false =>
        rw [chk_no hok] at HCD
        have HE := Lib.hid (setOk_not (n := n) (l := l) (setOk_item hxx hok))
        clear hxx hil hcl hok hxs
        go_wp2_with (fail)
        with_reducible refine (HCD.out _).mono ?_
        rintro e w5 ⟨rfl, hb⟩
        have HB5 := Lib.hid (hB.out.1.trans (hb.mono hB.out.1.size))
        clear hb
        go_wp2_with (fail)
        go_ret
        exact ⟨by rw [HE.out] <;> rfl, HB5.out⟩
      | true =>
        rw [chk_ok hok] at HCD
        have hsz : x.size ≤ 4096 := by have := okD_len hok; simpa using this
        have HFD := Lib.hid (fun W => foldJ_any t x (by omega) W)
        obtain ⟨FX, hFX⟩ : ∃ FX : ByteArray, (⟨(foldD t x.data.toList).toArray⟩ : ByteArray) = FX := ⟨_, rfl⟩
        rw [hFX] at HFD
        have hFXd : FX.data.toList = foldX t x := by rw [← hFX]; rfl
        have HFX := Lib.hid (And.intro hFXd (And.intro hok hsz))
        clear hxx hil hcl hok hxs hsz hFX hFXd
        go_wp2_with (fail)
        with_reducible refine (HCD.out _).mono ?_
        rintro e w5 ⟨rfl, hb⟩
        have HB5 := Lib.hid (And.intro (hB.out.1.trans (hb.mono hB.out.1.size)) (hB.out.2.below hb hB.out.2.lt))
        clear hb t1
        have t1 := HB5.out.2.cell 1
        go_wp2_with (fail)
        with_reducible refine (HFD.out _).mono ?_
        rintro e w6 ⟨rfl, hb⟩
        have HB6 := Lib.hid (And.intro (HB5.out.1.trans (hb.mono HB5.out.1.size)) (HB5.out.2.below hb HB5.out.2.lt))
        clear hb t1
        have hle := leq_str FX last
        obtain ⟨z, hz⟩ : ∃ z, ltS last.data.toList FX.data.toList = z := ⟨_, rfl⟩
        rw [hz] at hle
        rw [HFX.out.1] at hz
        by_cases hi0 : i = 0
        · have hi0I : ¬ (0 : Int) < (i : Int) := by omega
          have HN2 := Lib.hid (hS.out.next HX2.out.1 HFX.out.2.1 (.inl hi0) HFX.out.1)
          clear hi0 hle hz
          go_wp2_with (fail)
          go_roundg (xs.length - (i + 1))
          case measure => have := hg.out; have := hilI; omega
          case rel => exact ⟨i + 1, FX, by go_num, rfl, (show xs.length - (i + 1) + (i + 1) = xs.length by have := hilI; omega), HN2.out, HB6.out⟩
        · have hi0I : (0 : Int) < (i : Int) := by omega
          cases z with
          | true =>
            have HN2 := Lib.hid (hS.out.next HX2.out.1 HFX.out.2.1 (.inr hz) HFX.out.1)
            clear hi0 hz
            go_wp2_with (fail)
            go_roundg (xs.length - (i + 1))
            case measure => have := hg.out; have := hilI; omega
            case rel => exact ⟨i + 1, FX, by go_num, rfl, (show xs.length - (i + 1) + (i + 1) = xs.length by have := hilI; omega), HN2.out, HB6.out⟩
          | false =>
            have HE : RowKit.Hid (setCode n t l xs = 2) := Lib.hid (by
              obtain ⟨j, rfl⟩ : ∃ j, i = j + 1 := ⟨i - 1, by omega⟩
              obtain ⟨y, hy⟩ : ∃ y, xs[j]? = some y := ⟨_, List.getElem?_eq_getElem (by have := HX2.out.2; omega)⟩
              rw [hS.out.last j y rfl hy] at hz
              exact setOk_not (setOk_order hy HX2.out.1 hz))
            clear hi0 hz
            go_wp2_with (fail)
            go_ret
            exact ⟨by rw [HE.out] <;> rfl, HB6.out.1⟩
    · have hilI : ¬ (i : Int) < (xs.length : Int) := by omega
      have hie : i = xs.length := by have := hg.out; omega
      have HE := Lib.hid (setOk_yes (Seen.done (hie ▸ hS.out) HNM.out HL.out.1 HL.out.2))
      clear hil hie
      go_wp2_with (fail)
      go_ret
      exact ⟨by rw [HE.out] <;> rfl, hB.out.1⟩
end Go.Proofs.YthnngndnpigjbaaGreat
