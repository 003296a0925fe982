/- The walk of record.Check. Conditions: none. -/
import Derived.Test.YthnngndnpigjbaaGreatRR
import Derived.Test.YthnngndnpigjbaaGreatRdCheck
import Derived.Test.YthnngndnpigjbaaGreatSame
namespace Go.Proofs.YthnngndnpigjbaaGreat
open Go.RowKit Go.Lib

abbrev RRec.nb (r : RRec) : Bs := r.n.data.toList
abbrev RRec.db (r : RRec) : Bs := r.d.data.toList
/-- Is the record right? -/
def chkR (r : RRec) : Bool := isName r.nb && (okD r.t r.db && (decide (r.l ≤ 2147483647) || decide (r.t = 41)))
theorem chkD_cases (t : Int) (l : Bs) : (okD t l = true ∧ chkD t l = 0) ∨ (okD t l = false ∧ chkD t l = 2) := by
  cases h : okD t l with
  | true => exact .inl ⟨rfl, by rw [chk_eq h]; rfl⟩
  | false => exact .inr ⟨rfl, by rw [chk_eq h]; rfl⟩
def codeR (r : RRec) : Int := if chkR r = true then 0 else 2
theorem codeR_yes {r : RRec} (h : chkR r = true) : codeR r = 0 := by unfold codeR; rw [if_pos h]
theorem codeR_no {r : RRec} (h : chkR r = false) : codeR r = 2 := by unfold codeR; rw [h]; rfl
theorem chkR_name {r : RRec} (h : isName r.nb = false) : chkR r = false := by unfold chkR; rw [h]; rfl
theorem chkR_data {r : RRec} (h : okD r.t r.db = false) : chkR r = false := by unfold chkR; rw [h]; simp
theorem chkR_rest {r : RRec} (h1 : isName r.nb = true) (h2 : okD r.t r.db = true) : chkR r = (decide (r.l ≤ 2147483647) || decide (r.t = 41)) := by unfold chkR; rw [h1, h2]; rfl

set_option maxRecDepth 100000 in
set_option maxHeartbeats 4000000 in
theorem recCheck_any (r : RRec) (hn : r.n.size ≤ maxLen) (hd : r.d.size ≤ 140737488355328) (w : World) :
    Calls Tryz.prog 45 #[r.val] w fun e w' => e = .returned (.int .i64 (codeR r)) ∧ Below w.heap.size w w' := by
  have HC := Lib.hid (fun W => Check_any r.n hn W)
  have HD := Lib.hid (fun W => rdCheck_any r.t r.d hd W)
  have HN := Lib.hid (chk_cases r.nb)
  have HE := Lib.hid (chkD_cases r.t r.db)
  have HX := Lib.hid (And.intro (@chkR_name r) (And.intro (@chkR_data r) (@chkR_rest r)))
  have HY := Lib.hid (And.intro (@codeR_yes r) (@codeR_no r))
  obtain ⟨n, t, c, l, d⟩ := r
  clear hn hd
  generalize codeR ⟨n, t, c, l, d⟩ = co at HY ⊢
  generalize chkR ⟨n, t, c, l, d⟩ = ck at HY HX
  change Calls _ _ #[.agg #[.string n, .int .u16 t, .int .u16 c, .int .u32 l, .string d]] _ _
  go_enter Tryz.func45, Tryz.ntmps45
  go_wp2_with (fail)
  obtain ⟨W1, hW1⟩ : ∃ W1, w.alloc (.cells #[.string n, .int .u16 t, .int .u16 c, .int .u32 l, .string d] 33) = W1 := ⟨_, rfl⟩
  have B1 := Lib.hid (show Below w.heap.size w W1 from by rw [← hW1]; exact (Below.refl _ _).alloc (Nat.le_refl _) _)
  have X1 := Lib.hid (show Blk W1 w.heap.size 33 #[.string n, .int .u16 t, .int .u16 c, .int .u32 l, .string d] from by rw [← hW1]; exact Blk.new _ _ _)
  rw [hW1]
  clear hW1
  refine (HC.out _).mono ?_
  rintro e w2 ⟨rfl, hb⟩
  have B2 := Lib.hid (B1.out.trans (hb.mono B1.out.size))
  have X2 := Lib.hid (X1.out.below hb X1.out.lt)
  clear hb
  have x1 := X2.out.cell 1
  have x4 := X2.out.cell 4
  have x3 := X2.out.cell 3
  rcases HN.out with ⟨h1, h2⟩ | ⟨h1, h2⟩
  case inr =>
    rw [show chkN n.data.toList = 2 from h2]
    go_wp2_with (fail)
    go_ret
    exact ⟨by rw [HY.out.2 (HX.out.1 h1)] <;> rfl, B2.out⟩
  have H1 := Lib.hid h1
  rw [show chkN n.data.toList = 0 from h2]
  clear h1 h2
  go_wp2_with (fail)
  refine (HD.out _).mono ?_
  rintro e w3 ⟨rfl, hb⟩
  have B3 := Lib.hid (B2.out.trans (hb.mono B2.out.size))
  have X3 := Lib.hid (X2.out.below hb X2.out.lt)
  clear hb x1 x4 x3
  have x1 := X3.out.cell 1
  have x3 := X3.out.cell 3
  rcases HE.out with ⟨h1, h2⟩ | ⟨h1, h2⟩
  case inr =>
    rw [show chkD t d.data.toList = 2 from h2]
    go_wp2_with (fail)
    go_ret
    exact ⟨by rw [HY.out.2 (HX.out.2.1 h1)] <;> rfl, B3.out⟩
  rw [show chkD t d.data.toList = 0 from h2]
  have h3 := HX.out.2.2 H1.out h1
  clear h1 h2
  by_cases hl : 2147483647 < l
  · by_cases ht : t = 41
    · subst ht
      have h4 : ck = true := by rw [h3]; simp
      have H4 := Lib.hid (HY.out.1 h4)
      clear h3 h4 HY
      go_wp2_with (fail)
      go_ret
      exact ⟨by rw [H4.out] <;> rfl, B3.out⟩
    · have h4 : ck = false := by rw [h3]; simp [ht]; omega
      have H4 := Lib.hid (HY.out.2 h4)
      have q1 : (t == 41) = false := by simp [ht]
      clear h3 h4 ht HY
      go_wp2_with (fail)
      go_ret
      exact ⟨by rw [H4.out] <;> rfl, B3.out⟩
  · have h4 : ck = true := by rw [h3]; simp; omega
    have H4 := Lib.hid (HY.out.1 h4)
    clear h3 h4 HY
    go_wp2_with (fail)
    go_ret
    exact ⟨by rw [H4.out] <;> rfl, B3.out⟩

/-- Is a record right, and of class 1? -/
def rightB (r : RRec) : Bool := decide (r.c = 1) && chkR r
end Go.Proofs.YthnngndnpigjbaaGreat
