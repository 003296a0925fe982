/- The walks of message.Op, message.Head and valid.code. Conditions: none. The walk of valid.Look at whatever bytes. Conditions: none. The walk of valid.Strip. Conditions: none. -/
import Derived.Test.YtgfpnkakglgokaaMsgM
import Derived.Test.YtgfpnkakglgokaaEdns
import Derived.Test.YtgfpnkakglgokaaMsgRd
import Derived.Test.YtgfpnkakglgokaaEdGen
import Derived.Test.YtgfpnkakglgokaaRegC
namespace Go.Proofs.Ytgfpnkakglgokaa
open Go.RowKit Go.Lib

def opN (bi : Int) : Int := wrap64 (bits .and .u16 bi 30720) / 2048
theorem opV_any (m : MRec) (w : World) : Calls Try.prog 45 #[m.val] w fun e w' => e = .returned (.int .i64 (opN m.bi)) ∧ Below w.heap.size w w' := by
  dsimp only [MRec.val]
  go_enter Try.func45, Try.ntmps45
  go_wp2
  go_ret
  exact ⟨rfl, (Below.refl _ _).alloc (Nat.le_refl _) _⟩
def HeadP (s : ByteArray) (w : World) (e : Ending) (w' : World) : Prop :=
  Below w.heap.size w w' ∧ ((s.size < 12 ∧ e = .returned (.tuple #[.int .u16 0, .int .u16 0, .int .i64 5])) ∨ (12 ≤ s.size ∧ e = .returned (.tuple #[.int .u16 (headN s.data.toList 0 : Int), .int .u16 (headN s.data.toList 1 : Int), .int .i64 0])))
theorem num_at0 {l : Bs} (hl : 12 ≤ l.length) : numM l (0, false) 2 = (headN l 0, (2, false)) := by
  unfold numM headN
  dsimp only
  rw [if_neg (by decide), if_pos (by omega)]
theorem num_at1 {l : Bs} (hl : 12 ≤ l.length) : numM l (2, false) 2 = (headN l 1, (4, false)) := by
  unfold numM headN
  dsimp only
  rw [if_neg (by decide), if_pos (by omega)]
set_option maxRecDepth 100000 in
theorem head_any (s : ByteArray) (hs : s.size ≤ 100000) (w : World) : Calls Try.prog 13 #[.string s] w (HeadP s w) := by
  have hsl : s.data.toList.length = s.size := by simp
  have hsI : (s.size : Int) ≤ 100000 := by omega
  have hsp : s.size ≤ 140737488355328 := by omega
  by_cases hsh : s.size < 12
  · have hshI : (s.size : Int) < 12 := by omega
    go_enter Try.func13, Try.ntmps13
    go_wp2_with (fail)
    go_ret3
    exact ⟨Below.refl _ _, .inl ⟨hsh, rfl⟩⟩
  · have hshI : ¬ (s.size : Int) < 12 := by omega
    have HO := Lib.hid (fun W => rOpen_any s W)
    have H12 := Lib.hid (show 12 ≤ s.data.toList.length by omega)
    go_enter Try.func13, Try.ntmps13
    go_wp2_with (fail)
    refine (HO.out _).mono ?_
    rintro e w1 ⟨rfl, hr, hb⟩
    have HN := Lib.hid (num2_st (st := (0, false)) hr hsp (Nat.zero_le _))
    rw [num_at0 H12.out] at HN
    have H1 := Lib.hid hb
    have y0 := wrap2 (headN_le s.data.toList 0)
    have y1 := wrap2 (headN_le s.data.toList 1)
    clear hr hb HO
    go_wp2_with (fail)
    refine HN.out.mono ?_
    rintro e w2 ⟨rfl, hr, hk, _⟩
    have HN2 := Lib.hid (num2_st (st := (2, false)) hr hsp (by have := H12.out; show 2 ≤ _; omega))
    rw [num_at1 H12.out] at HN2
    have H2 := Lib.hid (H1.out.trans (But.below hk (Nat.le_refl _) H1.out.size))
    clear hr hk HN
    go_wp2_with (fail)
    refine HN2.out.mono ?_
    rintro e w3 ⟨rfl, hr, hk, _⟩
    have H3 := Lib.hid (H2.out.trans (But.below hk (Nat.le_refl _) H2.out.size))
    clear hr hk HN2
    go_wp2_with (fail)
    go_ret3
    exact ⟨H3.out, .inr ⟨by omega, rfl⟩⟩
/-- What becomes of a message that is to be resolved. -/
structure CodeYes (m : MRec) (ve bad : Int) (x : QRec) : Prop where
  q : m.q = [x]
  s : m.s = []
  h : m.h = []
  bad : bad ≠ 2
  op : opN m.bi = 0
  ve : ¬ 0 < ve
  cls : x.c = 1
  rd : bits .and .u16 m.bi 256 ≠ 0
  t0 : x.t ≠ 0
  t1 : x.t ≠ 41
  t2 : ¬ (251 ≤ x.t ∧ x.t ≤ 255)
def CodeP (m : MRec) (ve bad : Int) (w : World) (e : Ending) (w' : World) : Prop :=
  Below w.heap.size w w' ∧ ∃ r : Int, e = .returned (.int .i64 r) ∧ (r = -1 ↔ ∃ q, CodeYes m ve bad q)
theorem codeP_no {m : MRec} {ve bad : Int} {w w' : World} {r : Int} (hb : Below w.heap.size w w') (hr : r ≠ -1) (hn : ∀ q, ¬ CodeYes m ve bad q) : CodeP m ve bad w (.returned (.int .i64 r)) w' :=
  ⟨hb, r, rfl, fun h => absurd h hr, fun ⟨q, h⟩ => absurd h (hn q)⟩
set_option maxRecDepth 100000 in
set_option maxHeartbeats 4000000 in
theorem code_any (m : MRec) (th : Bool) (sz hi ve fl : Int) (A : Option Addr) (n c : Nat) (bad : Int) (w : World) (hm : m.In w) (hl : m.q.length ≤ 4096 ∧ m.q.length ≤ m.qc ∧ m.qc ≤ maxLen ∧ m.s.length ≤ 4096 ∧ m.h.length ≤ 4096) :
    Calls Try.prog 17 #[m.val, ednsV th sz hi ve fl A n c, .int .i64 bad] w (CodeP m ve bad w) := by
  have HOP := Lib.hid (fun W => opV_any m W)
  obtain ⟨hq1, hq2, hq3, hs1, hh1⟩ := hl
  unfold maxLen at hq3
  have HM := Lib.hid hm
  clear hm
  dsimp only [MRec.val] at HOP ⊢
  unfold ednsV
  obtain ⟨nq, hnq⟩ : ∃ nq, m.q.length = nq := ⟨_, rfl⟩
  obtain ⟨ns, hns⟩ : ∃ ns, m.s.length = ns := ⟨_, rfl⟩
  obtain ⟨nh, hnh⟩ : ∃ nh, m.h.length = nh := ⟨_, rfl⟩
  have HL := Lib.hid (And.intro hnq (And.intro hns hnh))
  simp only [hnq, hns, hnh] at HOP hq1 hq2 hs1 hh1 ⊢
  clear hnq hns hnh
  by_cases h1 : nq = 1
  case neg =>
    have h1I : ((nq : Int) == 1) = false := by rw [beq_eq_false_iff_ne]; omega
    have h1J : ((nq : Int) != 1) = true := by rw [bne_iff_ne]; omega
    have h1K : ¬ (nq : Int) = 1 := by omega
    have HN := Lib.hid (show ∀ q, ¬ CodeYes m ve bad q from fun q h => h1 (by rw [← HL.out.1, h.q]; rfl))
    clear h1
    go_enter Try.func17, Try.ntmps17
    go_wp2_with (fail)
    go_ret
    exact codeP_no (((Below.refl _ _).alloc (Nat.le_refl _) _).alloc (by simp) _) (by decide) HN.out
  subst h1
  rcases Nat.eq_zero_or_pos ns with h2 | h2
  case inr =>
    have h2I : (0 : Int) < (ns : Int) := by omega
    have HN := Lib.hid (show ∀ q, ¬ CodeYes m ve bad q from fun q h => by have := HL.out.2.1; rw [h.s] at this; simp at this; omega)
    clear h2
    go_enter Try.func17, Try.ntmps17
    go_wp2_with (fail)
    go_ret
    exact codeP_no (((Below.refl _ _).alloc (Nat.le_refl _) _).alloc (by simp) _) (by decide) HN.out
  subst h2
  rcases Nat.eq_zero_or_pos nh with h3 | h3
  case inr =>
    have h3I : (0 : Int) < (nh : Int) := by omega
    have HN := Lib.hid (show ∀ q, ¬ CodeYes m ve bad q from fun q h => by have := HL.out.2.2; rw [h.h] at this; simp at this; omega)
    clear h3
    go_enter Try.func17, Try.ntmps17
    go_wp2_with (fail)
    go_ret
    exact codeP_no (((Below.refl _ _).alloc (Nat.le_refl _) _).alloc (by simp) _) (by decide) HN.out
  subst h3
  by_cases h4 : bad = 2
  case pos =>
    have HN := Lib.hid (show ∀ q, ¬ CodeYes m ve bad q from fun q h => h.bad h4)
    subst h4
    go_enter Try.func17, Try.ntmps17
    go_wp2_with (fail)
    go_ret
    exact codeP_no (((Below.refl _ _).alloc (Nat.le_refl _) _).alloc (by simp) _) (by decide) HN.out
  have h4I : (bad == 2) = false := by rw [beq_eq_false_iff_ne]; exact h4
  obtain ⟨q, hq⟩ : ∃ q, m.q = [q] := List.length_eq_one_iff.1 HL.out.1
  have HX := Lib.hid (And.intro hq (And.intro (List.eq_nil_of_length_eq_zero HL.out.2.1) (And.intro (List.eq_nil_of_length_eq_zero HL.out.2.2) h4)))
  obtain ⟨W0, hW0⟩ : ∃ W0, (w.alloc (.cells #[.int .u16 m.id, .int .u16 m.bi, .slice m.qA (1 : Nat) m.qc, .slice m.sA (0 : Nat) m.sc, .slice m.hA (0 : Nat) m.hc, .slice m.eA m.e.length m.ec] 35)).alloc (.cells #[.bool th, .int .u16 sz, .int .u8 hi, .int .u8 ve, .int .u16 fl, .slice A n c] 38) = W0 := ⟨_, rfl⟩
  have hb0 : Below w.heap.size w W0 := by rw [← hW0]; exact ((Below.refl _ _).alloc (Nat.le_refl _) _).alloc (by simp) _
  have hmb : Blk W0 w.heap.size 35 #[.int .u16 m.id, .int .u16 m.bi, .slice m.qA (1 : Nat) m.qc, .slice m.sA (0 : Nat) m.sc, .slice m.hA (0 : Nat) m.hc, .slice m.eA m.e.length m.ec] := by rw [← hW0]; exact (Blk.new w _ _).alloc _
  have heb : Blk W0 (w.heap.size + 1) 38 #[.bool th, .int .u16 sz, .int .u8 hi, .int .u8 ve, .int .u16 fl, .slice A n c] := by
    rw [← hW0]
    have := Blk.new (w.alloc (.cells #[.int .u16 m.id, .int .u16 m.bi, .slice m.qA (1 : Nat) m.qc, .slice m.sA (0 : Nat) m.sc, .slice m.hA (0 : Nat) m.hc, .slice m.eA m.e.length m.ec] 35)) 38 #[.bool th, .int .u16 sz, .int .u8 hi, .int .u8 ve, .int .u16 fl, .slice A n c]
    rw [World.size_alloc] at this
    exact this
  obtain ⟨qb, qo, hqA, hqb, d0, d1, d2⟩ := (HM.out.below hb0).tq.cells (k := 0) (e := q) (by rw [hq]; rfl)
  obtain ⟨qn, qt, qc⟩ := q
  dsimp only at d0 d1 d2
  have HZ := Lib.hid (And.intro hb0 (And.intro hmb heb))
  have HQA := Lib.hid hqA
  rw [hqA] at hW0 HOP ⊢
  rw [Nat.zero_mul, Nat.add_zero] at d0 d1 d2
  rw [hqA] at hmb
  have m0 : W0.cell? ⟨w.heap.size, 0, none⟩ = some (.int .u16 m.id) := hmb.cell 0
  have m1 : W0.cell? ⟨w.heap.size, 1, none⟩ = some (.int .u16 m.bi) := hmb.cell 1
  have m2 : W0.cell? ⟨w.heap.size, 2, none⟩ = some (.slice (some ⟨qb, qo, none⟩) 1 m.qc) := hmb.cell 2
  have m3 : W0.cell? ⟨w.heap.size, 3, none⟩ = some (.slice m.sA 0 m.sc) := hmb.cell 3
  have m4 : W0.cell? ⟨w.heap.size, 4, none⟩ = some (.slice m.hA 0 m.hc) := hmb.cell 4
  have m5 : W0.cell? ⟨w.heap.size, 5, none⟩ = some (.slice m.eA m.e.length m.ec) := hmb.cell 5
  have e3 : W0.cell? ⟨w.heap.size + 1, 3, none⟩ = some (.int .u8 ve) := heb.cell 3
  have hwz : w.heap.size + 2 ≤ W0.heap.size := by rw [← hW0]; simp
  have n0 : (W0.alloc (.cells #[.string qn, .int .u16 qt, .int .u16 qc] 49)).cell? ⟨w.heap.size, 0, none⟩ = some (.int .u16 m.id) := (World.cell?_alloc_lt _ _ _ (by show w.heap.size < _; omega)).trans m0
  have n1 : (W0.alloc (.cells #[.string qn, .int .u16 qt, .int .u16 qc] 49)).cell? ⟨w.heap.size, 1, none⟩ = some (.int .u16 m.bi) := (World.cell?_alloc_lt _ _ _ (by show w.heap.size < _; omega)).trans m1
  have n2 : (W0.alloc (.cells #[.string qn, .int .u16 qt, .int .u16 qc] 49)).cell? ⟨w.heap.size, 2, none⟩ = some (.slice (some ⟨qb, qo, none⟩) 1 m.qc) := (World.cell?_alloc_lt _ _ _ (by show w.heap.size < _; omega)).trans m2
  have n3 : (W0.alloc (.cells #[.string qn, .int .u16 qt, .int .u16 qc] 49)).cell? ⟨w.heap.size, 3, none⟩ = some (.slice m.sA 0 m.sc) := (World.cell?_alloc_lt _ _ _ (by show w.heap.size < _; omega)).trans m3
  have n4 : (W0.alloc (.cells #[.string qn, .int .u16 qt, .int .u16 qc] 49)).cell? ⟨w.heap.size, 4, none⟩ = some (.slice m.hA 0 m.hc) := (World.cell?_alloc_lt _ _ _ (by show w.heap.size < _; omega)).trans m4
  have n5 : (W0.alloc (.cells #[.string qn, .int .u16 qt, .int .u16 qc] 49)).cell? ⟨w.heap.size, 5, none⟩ = some (.slice m.eA m.e.length m.ec) := (World.cell?_alloc_lt _ _ _ (by show w.heap.size < _; omega)).trans m5
  clear h4 hq hqA hqb hb0 hmb heb
  go_enter Try.func17, Try.ntmps17
  go_wp2_with (fail)
  with_reducible refine (HOP.out _).mono ?_
  rintro e w1 ⟨rfl, hb⟩
  obtain ⟨W1, hW1⟩ : ∃ W1, W0.alloc (.cells #[.string qn, .int .u16 qt, .int .u16 qc] 49) = W1 := ⟨_, rfl⟩
  have hb1 : Below W0.heap.size W0 w1 := by
    have h1 : Below W0.heap.size W0 (W0.alloc (.cells #[.string qn, .int .u16 qt, .int .u16 qc] 49)) := (Below.refl _ _).alloc (Nat.le_refl _) _
    exact h1.trans (hb.mono h1.size)
  have hqb : Blk w1 W0.heap.size 49 #[.string qn, .int .u16 qt, .int .u16 qc] := (Blk.new W0 _ _).below hb (by simp)
  have m1' : w1.cell? ⟨w.heap.size, 1, none⟩ = some (.int .u16 m.bi) := (hb1.cell (p := ⟨w.heap.size, 1, none⟩) (by show w.heap.size < _; omega)).trans m1
  have e3' : w1.cell? ⟨w.heap.size + 1, 3, none⟩ = some (.int .u8 ve) := (hb1.cell (p := ⟨w.heap.size + 1, 3, none⟩) (by show w.heap.size + 1 < _; omega)).trans e3
  have c1 := hqb.cell 1
  have c2 := hqb.cell 2
  have HB := Lib.hid (HZ.out.1.trans (hb1.mono HZ.out.1.size))
  have HYES := Lib.hid (show ∀ q, CodeYes m ve bad q → q = ⟨qn, qt, qc⟩ from fun q h => by have := h.q; rw [HX.out.1] at this; injection this with this; exact this.symm)
  clear hb hb1 hqb n0 n1 n2 n3 n4 n5 m0 m1 m2 m3 m4 m5 e3 d0 d1 d2 hW0 hW1
  by_cases h5 : opN m.bi = 0
  case neg =>
    have h5I : (opN m.bi == 0) = false := by rw [beq_eq_false_iff_ne]; exact h5
    have h5J : (opN m.bi != 0) = true := by rw [bne_iff_ne]; exact h5
    have HN := Lib.hid (show ∀ q, ¬ CodeYes m ve bad q from fun q h => h5 h.op)
    go_wp2_with (fail)
    go_ret
    exact codeP_no HB.out (by decide) HN.out
  have HOPZ := Lib.hid h5
  rw [h5]
  clear h5
  by_cases h6 : 0 < ve
  case pos =>
    have HN := Lib.hid (show ∀ q, ¬ CodeYes m ve bad q from fun q h => h.ve h6)
    go_wp2_with (fail)
    go_ret
    exact codeP_no HB.out (by decide) HN.out
  have HVE := Lib.hid h6
  by_cases h7 : qc = 1
  case neg =>
    have h7I : (qc == 1) = false := by rw [beq_eq_false_iff_ne]; exact h7
    have HN := Lib.hid (show ∀ q, ¬ CodeYes m ve bad q from fun q h => h7 (by have h8 := h.cls; rw [HYES.out q h] at h8; exact h8))
    go_wp2_with (fail)
    go_ret
    exact codeP_no HB.out (by decide) HN.out
  subst h7
  by_cases h8 : bits .and .u16 m.bi 256 = 0
  case pos =>
    have HN := Lib.hid (show ∀ q, ¬ CodeYes m ve bad q from fun q h => h.rd h8)
    go_wp2_with (fail)
    go_ret
    exact codeP_no HB.out (by decide) HN.out
  have h8I : (bits .and .u16 m.bi 256 == 0) = false := by rw [beq_eq_false_iff_ne]; exact h8
  have HRD := Lib.hid h8
  by_cases h9 : qt = 0
  case pos =>
    have HN := Lib.hid (show ∀ q, ¬ CodeYes m ve bad q from fun q h => h.t0 (by rw [HYES.out q h]; exact h9))
    subst h9
    go_wp2_with (fail)
    go_ret
    exact codeP_no HB.out (by decide) HN.out
  have h9I : (qt == 0) = false := by rw [beq_eq_false_iff_ne]; exact h9
  by_cases h10 : qt = 41
  case pos =>
    have HN := Lib.hid (show ∀ q, ¬ CodeYes m ve bad q from fun q h => h.t1 (by rw [HYES.out q h]; exact h10))
    subst h10
    go_wp2_with (fail)
    go_ret
    exact codeP_no HB.out (by decide) HN.out
  have h10I : (qt == 41) = false := by rw [beq_eq_false_iff_ne]; exact h10
  by_cases h11 : 251 ≤ qt
  case pos =>
    by_cases h12 : qt ≤ 255
    case pos =>
      have HN := Lib.hid (show ∀ q, ¬ CodeYes m ve bad q from fun q h => h.t2 (by rw [HYES.out q h]; exact ⟨h11, h12⟩))
      go_wp2_with (fail)
      go_ret
      exact codeP_no HB.out (by decide) HN.out
    have HN := Lib.hid (show CodeYes m ve bad ⟨qn, qt, 1⟩ from ⟨HX.out.1, HX.out.2.1, HX.out.2.2.1, HX.out.2.2.2, HOPZ.out, HVE.out, rfl, HRD.out, h9, h10, fun h => h12 h.2⟩)
    go_wp2_with (fail)
    go_ret
    exact ⟨HB.out, _, rfl, iff_of_true rfl ⟨_, HN.out⟩⟩
  have HN := Lib.hid (show CodeYes m ve bad ⟨qn, qt, 1⟩ from ⟨HX.out.1, HX.out.2.1, HX.out.2.2.1, HX.out.2.2.2, HOPZ.out, HVE.out, rfl, HRD.out, h9, h10, fun h => h11 h.1⟩)
  go_wp2_with (fail)
  go_ret
  exact ⟨HB.out, _, rfl, iff_of_true rfl ⟨_, HN.out⟩⟩
end Go.Proofs.Ytgfpnkakglgokaa

namespace Go.Proofs.Ytgfpnkakglgokaa
open Go.RowKit Go.Shelf Go.Lib

theorem agg_req : (Try.prog.info? 40).map (·.size) = some 15 := by kernel_rfl
def reqZ : Array Value := #[.int .u16 0, .int .u16 0, .slice none 0 0, .slice none 0 0, .slice none 0 0, .slice none 0 0, .bool false, .int .u16 0, .int .u8 0, .int .u8 0, .int .u16 0, .slice none 0 0, .string ⟨#[]⟩, .string ⟨#[]⟩, .int .i64 0]
theorem Blk.req {w : World} {g : Nat} {u0 u1 u2 u3 u4 u5 u6 u7 u8 u9 u10 u11 u12 u13 u14 : Value} (h : Blk w g 40 #[u0, u1, u2, u3, u4, u5, u6, u7, u8, u9, u10, u11, u12, u13, u14]) (v0 v1 v2 v3 v4 v5 v6 v7 v8 v9 v10 v11 v12 v13 v14 : Value) :
    Blk (((((((((((((((w.setCell ⟨g, 0, none⟩ v0).setCell ⟨g, 1, none⟩ v1).setCell ⟨g, 2, none⟩ v2).setCell ⟨g, 3, none⟩ v3).setCell ⟨g, 4, none⟩ v4).setCell ⟨g, 5, none⟩ v5).setCell ⟨g, 6, none⟩ v6).setCell ⟨g, 7, none⟩ v7).setCell ⟨g, 8, none⟩ v8).setCell ⟨g, 9, none⟩ v9).setCell ⟨g, 10, none⟩ v10).setCell ⟨g, 11, none⟩ v11).setCell ⟨g, 12, none⟩ v12).setCell ⟨g, 13, none⟩ v13).setCell ⟨g, 14, none⟩ v14) g 40 #[v0, v1, v2, v3, v4, v5, v6, v7, v8, v9, v10, v11, v12, v13, v14] := by
  have h := ((((((((((((((h.set_ 0 v0).set_ 1 v1).set_ 2 v2).set_ 3 v3).set_ 4 v4).set_ 5 v5).set_ 6 v6).set_ 7 v7).set_ 8 v8).set_ 9 v9).set_ 10 v10).set_ 11 v11).set_ 12 v12).set_ 13 v13).set_ 14 v14
  simpa using h
theorem keep_req {K : Nat → Prop} (w : World) {g : Nat} (hg : ∀ i, K i → i ≠ g) (v0 v1 v2 v3 v4 v5 v6 v7 v8 v9 v10 v11 v12 v13 v14 : Value) :
    KeepK K w (((((((((((((((w.setCell ⟨g, 0, none⟩ v0).setCell ⟨g, 1, none⟩ v1).setCell ⟨g, 2, none⟩ v2).setCell ⟨g, 3, none⟩ v3).setCell ⟨g, 4, none⟩ v4).setCell ⟨g, 5, none⟩ v5).setCell ⟨g, 6, none⟩ v6).setCell ⟨g, 7, none⟩ v7).setCell ⟨g, 8, none⟩ v8).setCell ⟨g, 9, none⟩ v9).setCell ⟨g, 10, none⟩ v10).setCell ⟨g, 11, none⟩ v11).setCell ⟨g, 12, none⟩ v12).setCell ⟨g, 13, none⟩ v13).setCell ⟨g, 14, none⟩ v14) :=
  (((((((((((((((KeepK.refl K w).setCell (p := ⟨g, 0, none⟩) hg _).setCell (p := ⟨g, 1, none⟩) hg _).setCell (p := ⟨g, 2, none⟩) hg _).setCell (p := ⟨g, 3, none⟩) hg _).setCell (p := ⟨g, 4, none⟩) hg _).setCell (p := ⟨g, 5, none⟩) hg _).setCell (p := ⟨g, 6, none⟩) hg _).setCell (p := ⟨g, 7, none⟩) hg _).setCell (p := ⟨g, 8, none⟩) hg _).setCell (p := ⟨g, 9, none⟩) hg _).setCell (p := ⟨g, 10, none⟩) hg _).setCell (p := ⟨g, 11, none⟩) hg _).setCell (p := ⟨g, 12, none⟩) hg _).setCell (p := ⟨g, 13, none⟩) hg _).setCell (p := ⟨g, 14, none⟩) hg _
theorem zreq {w : World} {g : Nat} (h : Blk w g 40 reqZ) : w.cell? ⟨g, 0, none⟩ = some (.int .u16 0) ∧ w.frozen? ⟨g, 0, none⟩ = false ∧ w.cell? ⟨g, 1, none⟩ = some (.int .u16 0) ∧ w.frozen? ⟨g, 1, none⟩ = false ∧ w.cell? ⟨g, 2, none⟩ = some (.slice none 0 0) ∧ w.frozen? ⟨g, 2, none⟩ = false ∧ w.cell? ⟨g, 3, none⟩ = some (.slice none 0 0) ∧ w.frozen? ⟨g, 3, none⟩ = false ∧ w.cell? ⟨g, 4, none⟩ = some (.slice none 0 0) ∧ w.frozen? ⟨g, 4, none⟩ = false ∧ w.cell? ⟨g, 5, none⟩ = some (.slice none 0 0) ∧ w.frozen? ⟨g, 5, none⟩ = false ∧ w.cell? ⟨g, 6, none⟩ = some (.bool false) ∧ w.frozen? ⟨g, 6, none⟩ = false ∧ w.cell? ⟨g, 7, none⟩ = some (.int .u16 0) ∧ w.frozen? ⟨g, 7, none⟩ = false ∧ w.cell? ⟨g, 8, none⟩ = some (.int .u8 0) ∧ w.frozen? ⟨g, 8, none⟩ = false ∧ w.cell? ⟨g, 9, none⟩ = some (.int .u8 0) ∧ w.frozen? ⟨g, 9, none⟩ = false ∧ w.cell? ⟨g, 10, none⟩ = some (.int .u16 0) ∧ w.frozen? ⟨g, 10, none⟩ = false ∧ w.cell? ⟨g, 11, none⟩ = some (.slice none 0 0) ∧ w.frozen? ⟨g, 11, none⟩ = false ∧ w.cell? ⟨g, 12, none⟩ = some (.string ⟨#[]⟩) ∧ w.frozen? ⟨g, 12, none⟩ = false ∧ w.cell? ⟨g, 13, none⟩ = some (.string ⟨#[]⟩) ∧ w.frozen? ⟨g, 13, none⟩ = false ∧ w.cell? ⟨g, 14, none⟩ = some (.int .i64 0) ∧ w.frozen? ⟨g, 14, none⟩ = false :=
  ⟨h.cell 0, h.frozen 0, h.cell 1, h.frozen 1, h.cell 2, h.frozen 2, h.cell 3, h.frozen 3, h.cell 4, h.frozen 4, h.cell 5, h.frozen 5, h.cell 6, h.frozen 6, h.cell 7, h.frozen 7, h.cell 8, h.frozen 8, h.cell 9, h.frozen 9, h.cell 10, h.frozen 10, h.cell 11, h.frozen 11, h.cell 12, h.frozen 12, h.cell 13, h.frozen 13, h.cell 14, h.frozen 14⟩
/-- A request, as a value. -/
def reqV (m : MRec) (th : Bool) (sz hi ve fl : Int) (A : Option Addr) (n c : Nat) (cl sv : ByteArray) (code : Int) : Value :=
  .agg #[.int .u16 m.id, .int .u16 m.bi, .slice m.qA m.q.length m.qc, .slice m.sA m.s.length m.sc, .slice m.hA m.h.length m.hc, .slice m.eA m.e.length m.ec, .bool th, .int .u16 sz, .int .u8 hi, .int .u8 ve, .int .u16 fl, .slice A n c, .string cl, .string sv, .int .i64 code]
/-- Bytes of one question and nothing else, that is to be resolved. -/
structure LookYes (l : Bs) : Prop where
  good : GoodB l
  qr : bits .and .u16 (headN l 1 : Int) 32768 = 0
  op : opN (headN l 1 : Int) = 0
  rd : bits .and .u16 (headN l 1 : Int) 256 ≠ 0
  q : ∀ q p, askStep l 12 = some (q, p) → q.c = 1 ∧ q.t ≠ 0 ∧ q.t ≠ 41 ∧ ¬ (251 ≤ q.t ∧ q.t ≤ 255)
theorem code_yes {l : Bs} {m : MRec} {xs : List Opt} {ve bad : Int} (ho : MOk l m) (hy : LookYes l) (he : m.e = [] → ve = 0 ∧ xs = []) (hb : (ckR xs).2.2 = bad) : ∃ q, CodeYes m ve bad q := by
  obtain ⟨q, g1, g2, g3, g4, g5, g6⟩ := hy.good
  obtain ⟨p, hp⟩ := ho.ask
  obtain ⟨x, hx⟩ : ∃ x, m.q = [x] := List.length_eq_one_iff.1 (by rw [ho.nq]; exact g2)
  rw [hx] at hp
  have hp1 := hp.one
  obtain ⟨c1, c2, c3, c4⟩ := hy.q x p hp1
  obtain ⟨rfl, rfl⟩ := he (List.eq_nil_of_length_eq_zero (by rw [ho.ne]; exact g5))
  have hb3 : bad = 3 := by rw [← hb]; rfl
  refine ⟨x, hx, List.eq_nil_of_length_eq_zero (by rw [ho.ns]; exact g3), List.eq_nil_of_length_eq_zero (by rw [ho.nh]; exact g4), by omega, by rw [ho.bi]; exact hy.op, by omega, c1, by rw [ho.bi]; exact hy.rd, c2, c3, c4⟩
def LookP (s : ByteArray) (w : World) (e : Ending) (w' : World) : Prop :=
  Below w.heap.size w w' ∧ ∃ (m : MRec) (th : Bool) (sz hi ve fl : Int) (A : Option Addr) (n c : Nat) (cl sv : ByteArray) (code : Int), e = .returned (reqV m th sz hi ve fl A n c cl sv code) ∧ (LookYes s.data.toList → code = -1) ∧
    (code = -1 → Sl w' 3 (.slice m.qA m.q.length m.qc) m.q.length (flatV QRec.vs m.q) ∧ (∀ g, (Value.slice m.qA m.q.length m.qc).ownBlock = some g → w.heap.size < g) ∧ MOk s.data.toList m ∧ bits .and .u16 (headN s.data.toList 1 : Int) 32768 = 0 ∧ 12 ≤ s.size ∧ ∃ ve bad q, CodeYes m ve bad q)
theorem reqLook_no {s : ByteArray} {w w' : World} {m : MRec} {th : Bool} {sz hi ve fl : Int} {A : Option Addr} {n c : Nat} {cl sv : ByteArray} {code : Int} (hb : Below w.heap.size w w') (hc : code ≠ -1) (hn : ¬ LookYes s.data.toList) : LookP s w (.returned (reqV m th sz hi ve fl A n c cl sv code)) w' :=
  ⟨hb, m, th, sz, hi, ve, fl, A, n, c, cl, sv, code, rfl, fun h => absurd h hn, fun h => absurd h hc⟩
def msgZ (id bi : Int) : MRec := ⟨id, bi, none, [], 0, none, [], 0, none, [], 0, none, [], 0⟩

set_option maxRecDepth 100000 in
set_option maxHeartbeats 4000000 in
theorem reqLook_any (s : ByteArray) (hs : s.size ≤ 100000) (w : World) : Calls Try.prog 6 #[.string s] w (LookP s w) := by
  have HH := Lib.hid (fun W => head_any s hs W)
  have HR := Lib.hid (fun W => msgRead_any s hs W)
  obtain ⟨W0, hW0⟩ : ∃ W0, w.alloc (.cells #[.int .u16 0, .int .u16 0, .slice none 0 0, .slice none 0 0, .slice none 0 0, .slice none 0 0, .bool false, .int .u16 0, .int .u8 0, .int .u8 0, .int .u16 0, .slice none 0 0, .string ⟨#[]⟩, .string ⟨#[]⟩, .int .i64 0] 40) = W0 := ⟨_, rfl⟩
  have hb0 : Below w.heap.size w W0 := by rw [← hW0]; exact (Below.refl _ _).alloc (Nat.le_refl _) _
  have hz0 : Blk W0 w.heap.size 40 reqZ := by rw [← hW0]; exact Blk.new _ _ _
  have H0 := Lib.hid (And.intro hb0 hz0)
  clear hb0 hz0
  go_enter Try.func6, Try.ntmps6
  go_wp2_with (fail)
  clear hW0
  refine (HH.out _).mono ?_
  rintro e w1 ⟨hb1, hd⟩
  have hb01 := H0.out.1.trans (hb1.mono H0.out.1.size)
  have hz1 := H0.out.2.below hb1 H0.out.2.lt
  have H1 := Lib.hid (And.intro hb01 hz1)
  clear hb01 hz1 hb1 HH
  rcases hd with ⟨hsh, rfl⟩ | ⟨hsh, rfl⟩
  · obtain ⟨z0, f0, z1, f1, z2, f2, z3, f3, z4, f4, z5, f5, z6, f6, z7, f7, z8, f8, z9, f9, z10, f10, z11, f11, z12, f12, z13, f13, z14, f14⟩ := zreq (H1.out.2)
    have HN := Lib.hid (show ¬ LookYes s.data.toList from fun h => by obtain ⟨q, h12, _⟩ := h.good; simp at h12; omega)
    clear hsh
    go_wp2_with (fail)
    have hd := H1.out.2.req (.int .u16 0) (.int .u16 0) (.slice none 0 0) (.slice none 0 0) (.slice none 0 0) (.slice none 0 0) (.bool false) (.int .u16 0) (.int .u8 0) (.int .u8 0) (.int .u16 0) (.slice none 0 0) (.string ⟨#[]⟩) (.string ⟨#[]⟩) (.int .i64 (-2))
    have hk := keep_req (K := fun i => i < w.heap.size) w1 (g := w.heap.size) (fun i hi => by omega) (.int .u16 0) (.int .u16 0) (.slice none 0 0) (.slice none 0 0) (.slice none 0 0) (.slice none 0 0) (.bool false) (.int .u16 0) (.int .u8 0) (.int .u8 0) (.int .u16 0) (.slice none 0 0) (.string ⟨#[]⟩) (.string ⟨#[]⟩) (.int .i64 (-2))
    refine bodyPost_ret (res_c rfl _ _ w.heap.size 40 _ _ rfl hd Try.underlying40 rfl agg_req) rfl ?_
    exact reqLook_no (m := msgZ 0 0) (((KeepK.of_below (K := fun i => i < w.heap.size) H1.out.1 fun i hi => hi).trans hk).below fun i hi => hi) (by decide) HN.out
  by_cases hqr : bits .and .u16 (headN s.data.toList 1 : Int) 32768 = 0
  case neg =>
    have hqI : (bits .and .u16 (headN s.data.toList 1 : Int) 32768 == 0) = false := by rw [beq_eq_false_iff_ne]; exact hqr
    have hqJ : (bits .and .u16 (headN s.data.toList 1 : Int) 32768 != 0) = true := by rw [bne_iff_ne]; exact hqr
    obtain ⟨z0, f0, z1, f1, z2, f2, z3, f3, z4, f4, z5, f5, z6, f6, z7, f7, z8, f8, z9, f9, z10, f10, z11, f11, z12, f12, z13, f13, z14, f14⟩ := zreq (H1.out.2)
    have HN := Lib.hid (show ¬ LookYes s.data.toList from fun h => hqr h.qr)
    clear hqr hsh
    go_wp2_with (fail)
    have hd := H1.out.2.req (.int .u16 0) (.int .u16 0) (.slice none 0 0) (.slice none 0 0) (.slice none 0 0) (.slice none 0 0) (.bool false) (.int .u16 0) (.int .u8 0) (.int .u8 0) (.int .u16 0) (.slice none 0 0) (.string ⟨#[]⟩) (.string ⟨#[]⟩) (.int .i64 (-2))
    have hk := keep_req (K := fun i => i < w.heap.size) w1 (g := w.heap.size) (fun i hi => by omega) (.int .u16 0) (.int .u16 0) (.slice none 0 0) (.slice none 0 0) (.slice none 0 0) (.slice none 0 0) (.bool false) (.int .u16 0) (.int .u8 0) (.int .u8 0) (.int .u16 0) (.slice none 0 0) (.string ⟨#[]⟩) (.string ⟨#[]⟩) (.int .i64 (-2))
    refine bodyPost_ret (res_c rfl _ _ w.heap.size 40 _ _ rfl hd Try.underlying40 rfl agg_req) rfl ?_
    exact reqLook_no (m := msgZ 0 0) (((KeepK.of_below (K := fun i => i < w.heap.size) H1.out.1 fun i hi => hi).trans hk).below fun i hi => hi) (by decide) HN.out
  have HQR := Lib.hid (And.intro hqr hsh)
  have hqI : (bits .and .u16 (headN s.data.toList 1 : Int) 32768 == 0) = true := by rw [beq_iff_eq]; exact hqr
  clear hqr hsh
  go_wp2_with (fail)
  refine (HR.out _).mono ?_
  rintro e w2 ⟨hb2, hd⟩
  have hb02 := H1.out.1.trans (hb2.mono H1.out.1.size)
  have hz2 := H1.out.2.below hb2 H1.out.2.lt
  have H2 := Lib.hid (And.intro hb02 hz2)
  have H1lt := Lib.hid H1.out.2.lt
  clear hb02 hz2 hb2 H1
  rcases hd with ⟨k, hk0, rfl, hng⟩ | ⟨m, rfl, hmi, hmo, hmq, hmw⟩
  · have hz2' := H2.out.2.alloc (.cells #[.int .u16 0, .int .u16 0, .slice none 0 0, .slice none 0 0, .slice none 0 0, .slice none 0 0] 35)
    obtain ⟨z0, f0, z1, f1, z2, f2, z3, f3, z4, f4, z5, f5, z6, f6, z7, f7, z8, f8, z9, f9, z10, f10, z11, f11, z12, f12, z13, f13, z14, f14⟩ := zreq (hz2')
    have HZ2 := Lib.hid hz2'
    have hkn : (k == 0) = false := by simpa using hk0
    have HN := Lib.hid (show ¬ LookYes s.data.toList from fun h => hng h.good)
    clear hk0 hng hz2'
    dsimp only [zeroMsgV]
    go_wp2_with (fail)
    have hd := HZ2.out.req (.int .u16 (headN s.data.toList 0 : Int)) (.int .u16 (headN s.data.toList 1 : Int)) (.slice none 0 0) (.slice none 0 0) (.slice none 0 0) (.slice none 0 0) (.bool false) (.int .u16 0) (.int .u8 0) (.int .u8 0) (.int .u16 0) (.slice none 0 0) (.string ⟨#[]⟩) (.string ⟨#[]⟩) (.int .i64 1)
    have hk := keep_req (K := fun i => i < w.heap.size) (w2.alloc (.cells #[.int .u16 0, .int .u16 0, .slice none 0 0, .slice none 0 0, .slice none 0 0, .slice none 0 0] 35)) (g := w.heap.size) (fun i hi => by omega) (.int .u16 (headN s.data.toList 0 : Int)) (.int .u16 (headN s.data.toList 1 : Int)) (.slice none 0 0) (.slice none 0 0) (.slice none 0 0) (.slice none 0 0) (.bool false) (.int .u16 0) (.int .u8 0) (.int .u8 0) (.int .u16 0) (.slice none 0 0) (.string ⟨#[]⟩) (.string ⟨#[]⟩) (.int .i64 1)
    refine bodyPost_ret (res_c rfl _ _ w.heap.size 40 _ _ rfl hd Try.underlying40 rfl agg_req) rfl ?_
    exact reqLook_no (m := msgZ (headN s.data.toList 0) (headN s.data.toList 1)) (((KeepK.of_below (K := fun i => i < w.heap.size) (H2.out.1.alloc H2.out.1.size _) fun i hi => hi).trans hk).below fun i hi => hi) (by decide) HN.out
  have HMM := Lib.hid (And.intro hmi hmo)
  have HMQ := Lib.hid (And.intro hmq (fun g hg => Nat.lt_of_lt_of_le H1lt.out (hmw g hg)))
  have HG := Lib.hid (fun W (hW : Below w2.heap.size w2 W) => getG_any m W (hmi.below hW) ⟨hmo.ls, hmo.lh, hmo.le⟩ hmo.ok)
  clear hmi hmo hmq hmw
  dsimp only [MRec.val] at HG ⊢
  go_wp2_with (fail)
  obtain ⟨V3, hV3⟩ : ∃ V3, (w2.alloc (.cells #[.int .u16 m.id, .int .u16 m.bi, .slice m.qA m.q.length m.qc, .slice m.sA m.s.length m.sc, .slice m.hA m.h.length m.hc, .slice m.eA m.e.length m.ec] 35)).alloc (.cells #[.int .u16 m.id, .int .u16 m.bi, .slice m.qA m.q.length m.qc, .slice m.sA m.s.length m.sc, .slice m.hA m.h.length m.hc, .slice m.eA m.e.length m.ec, .bool false, .int .u16 0, .int .u8 0, .int .u8 0, .int .u16 0, .slice none 0 0, .string ⟨#[]⟩, .string ⟨#[]⟩, .int .i64 0] 40) = V3 := ⟨_, rfl⟩
  have hb23 : Below w2.heap.size w2 V3 := by rw [← hV3]; exact ((Below.refl _ _).alloc (Nat.le_refl _) _).alloc (by simp) _
  have hmb3 : Blk V3 w2.heap.size 35 #[.int .u16 m.id, .int .u16 m.bi, .slice m.qA m.q.length m.qc, .slice m.sA m.s.length m.sc, .slice m.hA m.h.length m.hc, .slice m.eA m.e.length m.ec] := by rw [← hV3]; exact (Blk.new w2 _ _).alloc _
  have hrb3 : Blk V3 (w2.heap.size + 1) 40 #[.int .u16 m.id, .int .u16 m.bi, .slice m.qA m.q.length m.qc, .slice m.sA m.s.length m.sc, .slice m.hA m.h.length m.hc, .slice m.eA m.e.length m.ec, .bool false, .int .u16 0, .int .u8 0, .int .u8 0, .int .u16 0, .slice none 0 0, .string ⟨#[]⟩, .string ⟨#[]⟩, .int .i64 0] := by
    rw [← hV3]
    have := Blk.new (w2.alloc (.cells #[.int .u16 m.id, .int .u16 m.bi, .slice m.qA m.q.length m.qc, .slice m.sA m.s.length m.sc, .slice m.hA m.h.length m.hc, .slice m.eA m.e.length m.ec] 35)) 40 #[.int .u16 m.id, .int .u16 m.bi, .slice m.qA m.q.length m.qc, .slice m.sA m.s.length m.sc, .slice m.hA m.h.length m.hc, .slice m.eA m.e.length m.ec, .bool false, .int .u16 0, .int .u8 0, .int .u8 0, .int .u16 0, .slice none 0 0, .string ⟨#[]⟩, .string ⟨#[]⟩, .int .i64 0]
    rw [World.size_alloc] at this
    exact this
  have hsz3 : V3.heap.size = w2.heap.size + 2 := by rw [← hV3]; simp
  rw [hV3]
  clear hV3
  have HG3 := Lib.hid (HG.out V3 hb23)
  have H3 := Lib.hid (And.intro hb23 (And.intro hmb3 (And.intro hrb3 hsz3)))
  clear HG hb23 hmb3 hrb3
  refine HG3.out.mono ?_
  rintro e w4 ⟨hb4, hd⟩
  have hmb4 := H3.out.2.1.below hb4 H3.out.2.1.lt
  have hrb4 := H3.out.2.2.1.below hb4 H3.out.2.2.1.lt
  have hzb4 := H2.out.2.below (H3.out.1.trans (hb4.mono H3.out.1.size)) H2.out.2.lt
  have hb04 := H2.out.1.trans ((H3.out.1.trans (hb4.mono H3.out.1.size)).mono H2.out.1.size)
  have hlt0 := H2.out.2.lt
  have hsz4 := hb4.size
  have H4 := Lib.hid (And.intro hmb4 (And.intro hrb4 (And.intro hzb4 (And.intro hb04 (H3.out.1.trans (hb4.mono H3.out.1.size))))))
  clear hmb4 hrb4 hzb4 hb04 hb4
  rcases hd with ⟨k, hk0, rfl, hne⟩ | ⟨th, sz, hi, ve, fl, A, xs, c, rfl, hsl, hown, hox, hxl, hemp⟩
  · have hb45 : Below w4.heap.size w4 (w4.alloc (.cells #[.bool false, .int .u16 0, .int .u8 0, .int .u8 0, .int .u16 0, .slice none 0 0] 38)) := (Below.refl _ _).alloc (Nat.le_refl _) _
    have hrb5 := H4.out.2.1.below hb45 H4.out.2.1.lt
    have f14 := hrb5.frozen 14
    have c14 := hrb5.cell 14
    have hrb6 : Blk ((w4.alloc (.cells #[.bool false, .int .u16 0, .int .u8 0, .int .u8 0, .int .u16 0, .slice none 0 0] 38)).setCell ⟨w2.heap.size + 1, 14, none⟩ (.int .i64 1)) (w2.heap.size + 1) 40 #[.int .u16 m.id, .int .u16 m.bi, .slice m.qA m.q.length m.qc, .slice m.sA m.s.length m.sc, .slice m.hA m.h.length m.hc, .slice m.eA m.e.length m.ec, .bool false, .int .u16 0, .int .u8 0, .int .u8 0, .int .u16 0, .slice none 0 0, .string ⟨#[]⟩, .string ⟨#[]⟩, .int .i64 1] := by
      have := hrb5.set_ 14 (.int .i64 1)
      simpa using this
    have hk56 : KeepK (fun i => i ≠ w2.heap.size + 1) (w4.alloc (.cells #[.bool false, .int .u16 0, .int .u8 0, .int .u8 0, .int .u16 0, .slice none 0 0] 38)) ((w4.alloc (.cells #[.bool false, .int .u16 0, .int .u8 0, .int .u8 0, .int .u16 0, .slice none 0 0] 38)).setCell ⟨w2.heap.size + 1, 14, none⟩ (.int .i64 1)) := (KeepK.refl _ (w4.alloc (.cells #[.bool false, .int .u16 0, .int .u8 0, .int .u8 0, .int .u16 0, .slice none 0 0] 38))).setCell (p := ⟨w2.heap.size + 1, 14, none⟩) (fun i hi => hi) _
    have hzb6 := (H4.out.2.2.1.below hb45 H4.out.2.2.1.lt).keepK hk56 (by omega)
    obtain ⟨z0, f0, z1, f1, z2, f2, z3, f3, z4, f4, z5, f5, z6, f6, z7, f7, z8, f8, z9, f9, z10, f10, z11, f11, z12, f12, z13, f13, z14, f14⟩ := zreq (hzb6)
    obtain ⟨r0, r1, r2, r3, r4, r5, r6, r7, r8, r9, r10, r11, r12, r13, r14⟩ : ((w4.alloc (.cells #[.bool false, .int .u16 0, .int .u8 0, .int .u8 0, .int .u16 0, .slice none 0 0] 38)).setCell ⟨w2.heap.size + 1, 14, none⟩ (.int .i64 1)).cell? ⟨w2.heap.size + 1, 0, none⟩ = some (.int .u16 m.id) ∧ ((w4.alloc (.cells #[.bool false, .int .u16 0, .int .u8 0, .int .u8 0, .int .u16 0, .slice none 0 0] 38)).setCell ⟨w2.heap.size + 1, 14, none⟩ (.int .i64 1)).cell? ⟨w2.heap.size + 1, 1, none⟩ = some (.int .u16 m.bi) ∧ ((w4.alloc (.cells #[.bool false, .int .u16 0, .int .u8 0, .int .u8 0, .int .u16 0, .slice none 0 0] 38)).setCell ⟨w2.heap.size + 1, 14, none⟩ (.int .i64 1)).cell? ⟨w2.heap.size + 1, 2, none⟩ = some (.slice m.qA m.q.length m.qc) ∧ ((w4.alloc (.cells #[.bool false, .int .u16 0, .int .u8 0, .int .u8 0, .int .u16 0, .slice none 0 0] 38)).setCell ⟨w2.heap.size + 1, 14, none⟩ (.int .i64 1)).cell? ⟨w2.heap.size + 1, 3, none⟩ = some (.slice m.sA m.s.length m.sc) ∧ ((w4.alloc (.cells #[.bool false, .int .u16 0, .int .u8 0, .int .u8 0, .int .u16 0, .slice none 0 0] 38)).setCell ⟨w2.heap.size + 1, 14, none⟩ (.int .i64 1)).cell? ⟨w2.heap.size + 1, 4, none⟩ = some (.slice m.hA m.h.length m.hc) ∧ ((w4.alloc (.cells #[.bool false, .int .u16 0, .int .u8 0, .int .u8 0, .int .u16 0, .slice none 0 0] 38)).setCell ⟨w2.heap.size + 1, 14, none⟩ (.int .i64 1)).cell? ⟨w2.heap.size + 1, 5, none⟩ = some (.slice m.eA m.e.length m.ec) ∧ ((w4.alloc (.cells #[.bool false, .int .u16 0, .int .u8 0, .int .u8 0, .int .u16 0, .slice none 0 0] 38)).setCell ⟨w2.heap.size + 1, 14, none⟩ (.int .i64 1)).cell? ⟨w2.heap.size + 1, 6, none⟩ = some (.bool false) ∧ ((w4.alloc (.cells #[.bool false, .int .u16 0, .int .u8 0, .int .u8 0, .int .u16 0, .slice none 0 0] 38)).setCell ⟨w2.heap.size + 1, 14, none⟩ (.int .i64 1)).cell? ⟨w2.heap.size + 1, 7, none⟩ = some (.int .u16 0) ∧ ((w4.alloc (.cells #[.bool false, .int .u16 0, .int .u8 0, .int .u8 0, .int .u16 0, .slice none 0 0] 38)).setCell ⟨w2.heap.size + 1, 14, none⟩ (.int .i64 1)).cell? ⟨w2.heap.size + 1, 8, none⟩ = some (.int .u8 0) ∧ ((w4.alloc (.cells #[.bool false, .int .u16 0, .int .u8 0, .int .u8 0, .int .u16 0, .slice none 0 0] 38)).setCell ⟨w2.heap.size + 1, 14, none⟩ (.int .i64 1)).cell? ⟨w2.heap.size + 1, 9, none⟩ = some (.int .u8 0) ∧ ((w4.alloc (.cells #[.bool false, .int .u16 0, .int .u8 0, .int .u8 0, .int .u16 0, .slice none 0 0] 38)).setCell ⟨w2.heap.size + 1, 14, none⟩ (.int .i64 1)).cell? ⟨w2.heap.size + 1, 10, none⟩ = some (.int .u16 0) ∧ ((w4.alloc (.cells #[.bool false, .int .u16 0, .int .u8 0, .int .u8 0, .int .u16 0, .slice none 0 0] 38)).setCell ⟨w2.heap.size + 1, 14, none⟩ (.int .i64 1)).cell? ⟨w2.heap.size + 1, 11, none⟩ = some (.slice none 0 0) ∧ ((w4.alloc (.cells #[.bool false, .int .u16 0, .int .u8 0, .int .u8 0, .int .u16 0, .slice none 0 0] 38)).setCell ⟨w2.heap.size + 1, 14, none⟩ (.int .i64 1)).cell? ⟨w2.heap.size + 1, 12, none⟩ = some (.string ⟨#[]⟩) ∧ ((w4.alloc (.cells #[.bool false, .int .u16 0, .int .u8 0, .int .u8 0, .int .u16 0, .slice none 0 0] 38)).setCell ⟨w2.heap.size + 1, 14, none⟩ (.int .i64 1)).cell? ⟨w2.heap.size + 1, 13, none⟩ = some (.string ⟨#[]⟩) ∧ ((w4.alloc (.cells #[.bool false, .int .u16 0, .int .u8 0, .int .u8 0, .int .u16 0, .slice none 0 0] 38)).setCell ⟨w2.heap.size + 1, 14, none⟩ (.int .i64 1)).cell? ⟨w2.heap.size + 1, 14, none⟩ = some (.int .i64 1) := ⟨hrb6.cell 0, hrb6.cell 1, hrb6.cell 2, hrb6.cell 3, hrb6.cell 4, hrb6.cell 5, hrb6.cell 6, hrb6.cell 7, hrb6.cell 8, hrb6.cell 9, hrb6.cell 10, hrb6.cell 11, hrb6.cell 12, hrb6.cell 13, hrb6.cell 14⟩
    have H6 := Lib.hid (And.intro hzb6 (And.intro hb45 hk56))
    have hkn : (k == 0) = false := by simpa using hk0
    have HN := Lib.hid (show ¬ LookYes s.data.toList from fun h => by
      have n3 := h.good.none (i := 3) (by omega)
      have n4 := h.good.none (i := 4) (by omega)
      have n5 := h.good.none (i := 5) (by omega)
      have ho := HMM.out.2
      exact hne ⟨List.eq_nil_of_length_eq_zero (by rw [ho.ns]; exact n3), List.eq_nil_of_length_eq_zero (by rw [ho.nh]; exact n4), List.eq_nil_of_length_eq_zero (by rw [ho.ne]; exact n5)⟩)
    clear hk0 hne hrb5 hrb6 hzb6 hk56 hb45
    dsimp only [ednsZ]
    go_wp2_with (fail)
    have hd := H6.out.1.req (.int .u16 m.id) (.int .u16 m.bi) (.slice m.qA m.q.length m.qc) (.slice m.sA m.s.length m.sc) (.slice m.hA m.h.length m.hc) (.slice m.eA m.e.length m.ec) (.bool false) (.int .u16 0) (.int .u8 0) (.int .u8 0) (.int .u16 0) (.slice none 0 0) (.string ⟨#[]⟩) (.string ⟨#[]⟩) (.int .i64 1)
    have hk := keep_req (K := fun i => i < w.heap.size) ((w4.alloc (.cells #[.bool false, .int .u16 0, .int .u8 0, .int .u8 0, .int .u16 0, .slice none 0 0] 38)).setCell ⟨w2.heap.size + 1, 14, none⟩ (.int .i64 1)) (g := w.heap.size) (fun i hi => by omega) (.int .u16 m.id) (.int .u16 m.bi) (.slice m.qA m.q.length m.qc) (.slice m.sA m.s.length m.sc) (.slice m.hA m.h.length m.hc) (.slice m.eA m.e.length m.ec) (.bool false) (.int .u16 0) (.int .u8 0) (.int .u8 0) (.int .u16 0) (.slice none 0 0) (.string ⟨#[]⟩) (.string ⟨#[]⟩) (.int .i64 1)
    refine bodyPost_ret (res_c rfl _ _ w.heap.size 40 _ _ rfl hd Try.underlying40 rfl agg_req) rfl ?_
    exact reqLook_no (m := m) ((((KeepK.of_below (K := fun i => i < w.heap.size) (H4.out.2.2.2.1.trans (H6.out.2.1.mono H4.out.2.2.2.1.size)) fun i hi => hi).trans (H6.out.2.2.mono fun i hi => by omega)).trans hk).below fun i hi => hi) (by decide) HN.out
  · have hsz5 : w4.heap.size < (w4.alloc (.cells #[.bool th, .int .u16 sz, .int .u8 hi, .int .u8 ve, .int .u16 fl, .slice A xs.length c] 38)).heap.size := by simp
    have hb45 : Below w4.heap.size w4 (w4.alloc (.cells #[.bool th, .int .u16 sz, .int .u8 hi, .int .u8 ve, .int .u16 fl, .slice A xs.length c] 38)) := (Below.refl _ _).alloc (Nat.le_refl _) _
    have hr5 := H4.out.2.1.below hb45 H4.out.2.1.lt
    have r6 : (w4.alloc (.cells #[.bool th, .int .u16 sz, .int .u8 hi, .int .u8 ve, .int .u16 fl, .slice A xs.length c] 38)).cell? ⟨w2.heap.size + 1, 6, none⟩ = some (.bool false) := hr5.cell 6
    have rf6 := hr5.frozen 6
    have r7 : (w4.alloc (.cells #[.bool th, .int .u16 sz, .int .u8 hi, .int .u8 ve, .int .u16 fl, .slice A xs.length c] 38)).cell? ⟨w2.heap.size + 1, 7, none⟩ = some (.int .u16 0) := hr5.cell 7
    have rf7 := hr5.frozen 7
    have r8 : (w4.alloc (.cells #[.bool th, .int .u16 sz, .int .u8 hi, .int .u8 ve, .int .u16 fl, .slice A xs.length c] 38)).cell? ⟨w2.heap.size + 1, 8, none⟩ = some (.int .u8 0) := hr5.cell 8
    have rf8 := hr5.frozen 8
    have r9 : (w4.alloc (.cells #[.bool th, .int .u16 sz, .int .u8 hi, .int .u8 ve, .int .u16 fl, .slice A xs.length c] 38)).cell? ⟨w2.heap.size + 1, 9, none⟩ = some (.int .u8 0) := hr5.cell 9
    have rf9 := hr5.frozen 9
    have r10 : (w4.alloc (.cells #[.bool th, .int .u16 sz, .int .u8 hi, .int .u8 ve, .int .u16 fl, .slice A xs.length c] 38)).cell? ⟨w2.heap.size + 1, 10, none⟩ = some (.int .u16 0) := hr5.cell 10
    have rf10 := hr5.frozen 10
    have r11 : (w4.alloc (.cells #[.bool th, .int .u16 sz, .int .u8 hi, .int .u8 ve, .int .u16 fl, .slice A xs.length c] 38)).cell? ⟨w2.heap.size + 1, 11, none⟩ = some (.slice none 0 0) := hr5.cell 11
    have rf11 := hr5.frozen 11
    have hk56 : KeepK (fun i => i ≠ w2.heap.size + 1) (w4.alloc (.cells #[.bool th, .int .u16 sz, .int .u8 hi, .int .u8 ve, .int .u16 fl, .slice A xs.length c] 38)) (((((((w4.alloc (.cells #[.bool th, .int .u16 sz, .int .u8 hi, .int .u8 ve, .int .u16 fl, .slice A xs.length c] 38)).setCell ⟨w2.heap.size + 1, 6, none⟩ (.bool th)).setCell ⟨w2.heap.size + 1, 7, none⟩ (.int .u16 sz)).setCell ⟨w2.heap.size + 1, 8, none⟩ (.int .u8 hi)).setCell ⟨w2.heap.size + 1, 9, none⟩ (.int .u8 ve)).setCell ⟨w2.heap.size + 1, 10, none⟩ (.int .u16 fl)).setCell ⟨w2.heap.size + 1, 11, none⟩ (.slice A xs.length c)) := ((((((KeepK.refl (fun i => i ≠ w2.heap.size + 1) (w4.alloc (.cells #[.bool th, .int .u16 sz, .int .u8 hi, .int .u8 ve, .int .u16 fl, .slice A xs.length c] 38))).setCell (p := ⟨w2.heap.size + 1, 6, none⟩) (fun i hi => hi) _).setCell (p := ⟨w2.heap.size + 1, 7, none⟩) (fun i hi => hi) _).setCell (p := ⟨w2.heap.size + 1, 8, none⟩) (fun i hi => hi) _).setCell (p := ⟨w2.heap.size + 1, 9, none⟩) (fun i hi => hi) _).setCell (p := ⟨w2.heap.size + 1, 10, none⟩) (fun i hi => hi) _).setCell (p := ⟨w2.heap.size + 1, 11, none⟩) (fun i hi => hi) _
    have hr6 : Blk (((((((w4.alloc (.cells #[.bool th, .int .u16 sz, .int .u8 hi, .int .u8 ve, .int .u16 fl, .slice A xs.length c] 38)).setCell ⟨w2.heap.size + 1, 6, none⟩ (.bool th)).setCell ⟨w2.heap.size + 1, 7, none⟩ (.int .u16 sz)).setCell ⟨w2.heap.size + 1, 8, none⟩ (.int .u8 hi)).setCell ⟨w2.heap.size + 1, 9, none⟩ (.int .u8 ve)).setCell ⟨w2.heap.size + 1, 10, none⟩ (.int .u16 fl)).setCell ⟨w2.heap.size + 1, 11, none⟩ (.slice A xs.length c)) (w2.heap.size + 1) 40 #[.int .u16 m.id, .int .u16 m.bi, .slice m.qA m.q.length m.qc, .slice m.sA m.s.length m.sc, .slice m.hA m.h.length m.hc, .slice m.eA m.e.length m.ec, .bool th, .int .u16 sz, .int .u8 hi, .int .u8 ve, .int .u16 fl, .slice A xs.length c, .string ⟨#[]⟩, .string ⟨#[]⟩, .int .i64 0] := by
      have := (((((hr5.set_ 6 (.bool th)).set_ 7 (.int .u16 sz)).set_ 8 (.int .u8 hi)).set_ 9 (.int .u8 ve)).set_ 10 (.int .u16 fl)).set_ 11 (.slice A xs.length c)
      simpa using this
    have he6 : Blk (((((((w4.alloc (.cells #[.bool th, .int .u16 sz, .int .u8 hi, .int .u8 ve, .int .u16 fl, .slice A xs.length c] 38)).setCell ⟨w2.heap.size + 1, 6, none⟩ (.bool th)).setCell ⟨w2.heap.size + 1, 7, none⟩ (.int .u16 sz)).setCell ⟨w2.heap.size + 1, 8, none⟩ (.int .u8 hi)).setCell ⟨w2.heap.size + 1, 9, none⟩ (.int .u8 ve)).setCell ⟨w2.heap.size + 1, 10, none⟩ (.int .u16 fl)).setCell ⟨w2.heap.size + 1, 11, none⟩ (.slice A xs.length c)) w4.heap.size 38 #[.bool th, .int .u16 sz, .int .u8 hi, .int .u8 ve, .int .u16 fl, .slice A xs.length c] := (Blk.new w4 _ _).keepK hk56 (by omega)
    have hm6 := (H4.out.1.below hb45 H4.out.1.lt).keepK hk56 (by omega)
    have hz6 := (H4.out.2.2.1.below hb45 H4.out.2.2.1.lt).keepK hk56 (by omega)
    have hb26 : Below w2.heap.size w2 (((((((w4.alloc (.cells #[.bool th, .int .u16 sz, .int .u8 hi, .int .u8 ve, .int .u16 fl, .slice A xs.length c] 38)).setCell ⟨w2.heap.size + 1, 6, none⟩ (.bool th)).setCell ⟨w2.heap.size + 1, 7, none⟩ (.int .u16 sz)).setCell ⟨w2.heap.size + 1, 8, none⟩ (.int .u8 hi)).setCell ⟨w2.heap.size + 1, 9, none⟩ (.int .u8 ve)).setCell ⟨w2.heap.size + 1, 10, none⟩ (.int .u16 fl)).setCell ⟨w2.heap.size + 1, 11, none⟩ (.slice A xs.length c)) := ((KeepK.of_below (K := fun i => i < w2.heap.size) (H4.out.2.2.2.2.trans (hb45.mono H4.out.2.2.2.2.size)) fun i hi => hi).trans (hk56.mono fun i hi => by omega)).below fun i hi => hi
    have hs6 := (hsl.below hb45 hsl.lt).keepK hk56 (fun g hg => by have := hown g hg; omega)
    have hT6 := otab_of_sl hs6 hox
    have HK := Lib.hid (Cookies_any th sz hi ve fl A xs c (((((((w4.alloc (.cells #[.bool th, .int .u16 sz, .int .u8 hi, .int .u8 ve, .int .u16 fl, .slice A xs.length c] 38)).setCell ⟨w2.heap.size + 1, 6, none⟩ (.bool th)).setCell ⟨w2.heap.size + 1, 7, none⟩ (.int .u16 sz)).setCell ⟨w2.heap.size + 1, 8, none⟩ (.int .u8 hi)).setCell ⟨w2.heap.size + 1, 9, none⟩ (.int .u8 ve)).setCell ⟨w2.heap.size + 1, 10, none⟩ (.int .u16 fl)).setCell ⟨w2.heap.size + 1, 11, none⟩ (.slice A xs.length c)) hT6 (by omega))
    have HE := Lib.hid (And.intro hxl hemp)
    obtain ⟨C, hC⟩ : ∃ C, (ckR xs).1 = C := ⟨_, rfl⟩
    obtain ⟨S, hS⟩ : ∃ S, (ckR xs).2.1 = S := ⟨_, rfl⟩
    obtain ⟨bad, hbd⟩ : ∃ bad, (ckR xs).2.2 = bad := ⟨_, rfl⟩
    rw [hC, hS, hbd] at HK
    have HCK := Lib.hid hbd
    have e0 : (((((((w4.alloc (.cells #[.bool th, .int .u16 sz, .int .u8 hi, .int .u8 ve, .int .u16 fl, .slice A xs.length c] 38)).setCell ⟨w2.heap.size + 1, 6, none⟩ (.bool th)).setCell ⟨w2.heap.size + 1, 7, none⟩ (.int .u16 sz)).setCell ⟨w2.heap.size + 1, 8, none⟩ (.int .u8 hi)).setCell ⟨w2.heap.size + 1, 9, none⟩ (.int .u8 ve)).setCell ⟨w2.heap.size + 1, 10, none⟩ (.int .u16 fl)).setCell ⟨w2.heap.size + 1, 11, none⟩ (.slice A xs.length c)).cell? ⟨w4.heap.size, 0, none⟩ = some (.bool th) := he6.cell 0
    have e1 : (((((((w4.alloc (.cells #[.bool th, .int .u16 sz, .int .u8 hi, .int .u8 ve, .int .u16 fl, .slice A xs.length c] 38)).setCell ⟨w2.heap.size + 1, 6, none⟩ (.bool th)).setCell ⟨w2.heap.size + 1, 7, none⟩ (.int .u16 sz)).setCell ⟨w2.heap.size + 1, 8, none⟩ (.int .u8 hi)).setCell ⟨w2.heap.size + 1, 9, none⟩ (.int .u8 ve)).setCell ⟨w2.heap.size + 1, 10, none⟩ (.int .u16 fl)).setCell ⟨w2.heap.size + 1, 11, none⟩ (.slice A xs.length c)).cell? ⟨w4.heap.size, 1, none⟩ = some (.int .u16 sz) := he6.cell 1
    have e2 : (((((((w4.alloc (.cells #[.bool th, .int .u16 sz, .int .u8 hi, .int .u8 ve, .int .u16 fl, .slice A xs.length c] 38)).setCell ⟨w2.heap.size + 1, 6, none⟩ (.bool th)).setCell ⟨w2.heap.size + 1, 7, none⟩ (.int .u16 sz)).setCell ⟨w2.heap.size + 1, 8, none⟩ (.int .u8 hi)).setCell ⟨w2.heap.size + 1, 9, none⟩ (.int .u8 ve)).setCell ⟨w2.heap.size + 1, 10, none⟩ (.int .u16 fl)).setCell ⟨w2.heap.size + 1, 11, none⟩ (.slice A xs.length c)).cell? ⟨w4.heap.size, 2, none⟩ = some (.int .u8 hi) := he6.cell 2
    have e3 : (((((((w4.alloc (.cells #[.bool th, .int .u16 sz, .int .u8 hi, .int .u8 ve, .int .u16 fl, .slice A xs.length c] 38)).setCell ⟨w2.heap.size + 1, 6, none⟩ (.bool th)).setCell ⟨w2.heap.size + 1, 7, none⟩ (.int .u16 sz)).setCell ⟨w2.heap.size + 1, 8, none⟩ (.int .u8 hi)).setCell ⟨w2.heap.size + 1, 9, none⟩ (.int .u8 ve)).setCell ⟨w2.heap.size + 1, 10, none⟩ (.int .u16 fl)).setCell ⟨w2.heap.size + 1, 11, none⟩ (.slice A xs.length c)).cell? ⟨w4.heap.size, 3, none⟩ = some (.int .u8 ve) := he6.cell 3
    have e4 : (((((((w4.alloc (.cells #[.bool th, .int .u16 sz, .int .u8 hi, .int .u8 ve, .int .u16 fl, .slice A xs.length c] 38)).setCell ⟨w2.heap.size + 1, 6, none⟩ (.bool th)).setCell ⟨w2.heap.size + 1, 7, none⟩ (.int .u16 sz)).setCell ⟨w2.heap.size + 1, 8, none⟩ (.int .u8 hi)).setCell ⟨w2.heap.size + 1, 9, none⟩ (.int .u8 ve)).setCell ⟨w2.heap.size + 1, 10, none⟩ (.int .u16 fl)).setCell ⟨w2.heap.size + 1, 11, none⟩ (.slice A xs.length c)).cell? ⟨w4.heap.size, 4, none⟩ = some (.int .u16 fl) := he6.cell 4
    have e5 : (((((((w4.alloc (.cells #[.bool th, .int .u16 sz, .int .u8 hi, .int .u8 ve, .int .u16 fl, .slice A xs.length c] 38)).setCell ⟨w2.heap.size + 1, 6, none⟩ (.bool th)).setCell ⟨w2.heap.size + 1, 7, none⟩ (.int .u16 sz)).setCell ⟨w2.heap.size + 1, 8, none⟩ (.int .u8 hi)).setCell ⟨w2.heap.size + 1, 9, none⟩ (.int .u8 ve)).setCell ⟨w2.heap.size + 1, 10, none⟩ (.int .u16 fl)).setCell ⟨w2.heap.size + 1, 11, none⟩ (.slice A xs.length c)).cell? ⟨w4.heap.size, 5, none⟩ = some (.slice A xs.length c) := he6.cell 5
    have H6 := Lib.hid (And.intro hm6 (And.intro he6 (And.intro hr6 (And.intro hz6 hb26))))
    clear hk56 hr6 he6 hm6 hz6 hb26 hs6 hT6 hC hS hbd hr5 hb45 hsl hown hox hxl hemp
    dsimp only [ednsV]
    go_wp2_with (fail)
    refine HK.out.mono ?_
    rintro e w7 ⟨rfl, hb67⟩
    have hsz67 := hb67.size
    have H7 := Lib.hid (And.intro (H6.out.1.below hb67 H6.out.1.lt) (And.intro (H6.out.2.1.below hb67 H6.out.2.1.lt) (And.intro (H6.out.2.2.1.below hb67 H6.out.2.2.1.lt) (And.intro (H6.out.2.2.2.1.below hb67 H6.out.2.2.2.1.lt) (H6.out.2.2.2.2.trans (hb67.mono H6.out.2.2.2.2.size))))))
    clear hb67 HK
    by_cases hbz : bad = 0
    case pos =>
      subst hbz
      have r12 : w7.cell? ⟨w2.heap.size + 1, 12, none⟩ = some (.string ⟨#[]⟩) := H7.out.2.2.1.cell 12
      have rf12 := H7.out.2.2.1.frozen 12
      have r13 : w7.cell? ⟨w2.heap.size + 1, 13, none⟩ = some (.string ⟨#[]⟩) := H7.out.2.2.1.cell 13
      have rf13 := H7.out.2.2.1.frozen 13
      have hk8 : KeepK (fun i => i ≠ w2.heap.size + 1) w7 ((w7.setCell ⟨w2.heap.size + 1, 12, none⟩ (.string C)).setCell ⟨w2.heap.size + 1, 13, none⟩ (.string S)) := ((KeepK.refl (fun i => i ≠ w2.heap.size + 1) w7).setCell (p := ⟨w2.heap.size + 1, 12, none⟩) (fun i hi => hi) (.string C)).setCell (p := ⟨w2.heap.size + 1, 13, none⟩) (fun i hi => hi) (.string S)
      have hr8 : Blk ((w7.setCell ⟨w2.heap.size + 1, 12, none⟩ (.string C)).setCell ⟨w2.heap.size + 1, 13, none⟩ (.string S)) (w2.heap.size + 1) 40 #[.int .u16 m.id, .int .u16 m.bi, .slice m.qA m.q.length m.qc, .slice m.sA m.s.length m.sc, .slice m.hA m.h.length m.hc, .slice m.eA m.e.length m.ec, .bool th, .int .u16 sz, .int .u8 hi, .int .u8 ve, .int .u16 fl, .slice A xs.length c, .string C, .string S, .int .i64 0] := by
        have := (H7.out.2.2.1.set_ 12 (.string C)).set_ 13 (.string S)
        simpa using this
      have hm8 := H7.out.1.keepK hk8 (by omega)
      have he8 := H7.out.2.1.keepK hk8 (by omega)
      have hz8 := H7.out.2.2.2.1.keepK hk8 (by omega)
      have hb28 : Below w2.heap.size w2 ((w7.setCell ⟨w2.heap.size + 1, 12, none⟩ (.string C)).setCell ⟨w2.heap.size + 1, 13, none⟩ (.string S)) := ((KeepK.of_below (K := fun i => i < w2.heap.size) H7.out.2.2.2.2 fun i hi => hi).trans (hk8.mono fun i hi => by omega)).below fun i hi => hi
      have m0 : ((w7.setCell ⟨w2.heap.size + 1, 12, none⟩ (.string C)).setCell ⟨w2.heap.size + 1, 13, none⟩ (.string S)).cell? ⟨w2.heap.size, 0, none⟩ = some (.int .u16 m.id) := hm8.cell 0
      have m1 : ((w7.setCell ⟨w2.heap.size + 1, 12, none⟩ (.string C)).setCell ⟨w2.heap.size + 1, 13, none⟩ (.string S)).cell? ⟨w2.heap.size, 1, none⟩ = some (.int .u16 m.bi) := hm8.cell 1
      have m2 : ((w7.setCell ⟨w2.heap.size + 1, 12, none⟩ (.string C)).setCell ⟨w2.heap.size + 1, 13, none⟩ (.string S)).cell? ⟨w2.heap.size, 2, none⟩ = some (.slice m.qA m.q.length m.qc) := hm8.cell 2
      have m3 : ((w7.setCell ⟨w2.heap.size + 1, 12, none⟩ (.string C)).setCell ⟨w2.heap.size + 1, 13, none⟩ (.string S)).cell? ⟨w2.heap.size, 3, none⟩ = some (.slice m.sA m.s.length m.sc) := hm8.cell 3
      have m4 : ((w7.setCell ⟨w2.heap.size + 1, 12, none⟩ (.string C)).setCell ⟨w2.heap.size + 1, 13, none⟩ (.string S)).cell? ⟨w2.heap.size, 4, none⟩ = some (.slice m.hA m.h.length m.hc) := hm8.cell 4
      have m5 : ((w7.setCell ⟨w2.heap.size + 1, 12, none⟩ (.string C)).setCell ⟨w2.heap.size + 1, 13, none⟩ (.string S)).cell? ⟨w2.heap.size, 5, none⟩ = some (.slice m.eA m.e.length m.ec) := hm8.cell 5
      have e0 : ((w7.setCell ⟨w2.heap.size + 1, 12, none⟩ (.string C)).setCell ⟨w2.heap.size + 1, 13, none⟩ (.string S)).cell? ⟨w4.heap.size, 0, none⟩ = some (.bool th) := he8.cell 0
      have e1 : ((w7.setCell ⟨w2.heap.size + 1, 12, none⟩ (.string C)).setCell ⟨w2.heap.size + 1, 13, none⟩ (.string S)).cell? ⟨w4.heap.size, 1, none⟩ = some (.int .u16 sz) := he8.cell 1
      have e2 : ((w7.setCell ⟨w2.heap.size + 1, 12, none⟩ (.string C)).setCell ⟨w2.heap.size + 1, 13, none⟩ (.string S)).cell? ⟨w4.heap.size, 2, none⟩ = some (.int .u8 hi) := he8.cell 2
      have e3 : ((w7.setCell ⟨w2.heap.size + 1, 12, none⟩ (.string C)).setCell ⟨w2.heap.size + 1, 13, none⟩ (.string S)).cell? ⟨w4.heap.size, 3, none⟩ = some (.int .u8 ve) := he8.cell 3
      have e4 : ((w7.setCell ⟨w2.heap.size + 1, 12, none⟩ (.string C)).setCell ⟨w2.heap.size + 1, 13, none⟩ (.string S)).cell? ⟨w4.heap.size, 4, none⟩ = some (.int .u16 fl) := he8.cell 4
      have e5 : ((w7.setCell ⟨w2.heap.size + 1, 12, none⟩ (.string C)).setCell ⟨w2.heap.size + 1, 13, none⟩ (.string S)).cell? ⟨w4.heap.size, 5, none⟩ = some (.slice A xs.length c) := he8.cell 5
      have HC := Lib.hid (code_any m th sz hi ve fl A xs.length c 0 ((w7.setCell ⟨w2.heap.size + 1, 12, none⟩ (.string C)).setCell ⟨w2.heap.size + 1, 13, none⟩ (.string S)) (HMM.out.1.below hb28) ⟨HMM.out.2.lq.1, HMM.out.2.lq.2.1, HMM.out.2.lq.2.2, HMM.out.2.ls, HMM.out.2.lh⟩)
      have H8 := Lib.hid (And.intro hr8 (And.intro hz8 hb28))
      clear hk8 hr8 hm8 he8 hz8 hb28
      dsimp only [MRec.val, ednsV] at HC
      go_wp2_with (fail)
      refine HC.out.mono ?_
      rintro e w9 ⟨hb9, r, rfl, hiff⟩
      have hr9 := H8.out.1.below hb9 H8.out.1.lt
      have hz9 := H8.out.2.1.below hb9 H8.out.2.1.lt
      have hb29 := H8.out.2.2.trans (hb9.mono H8.out.2.2.size)
      have c14 := hr9.cell 14
      have f14 := hr9.frozen 14
      have hkA : KeepK (fun i => i ≠ w2.heap.size + 1) w9 (w9.setCell ⟨w2.heap.size + 1, 14, none⟩ (.int .i64 r)) := (KeepK.refl _ w9).setCell (p := ⟨w2.heap.size + 1, 14, none⟩) (fun i hi => hi) _
      have hrA : Blk (w9.setCell ⟨w2.heap.size + 1, 14, none⟩ (.int .i64 r)) (w2.heap.size + 1) 40 #[.int .u16 m.id, .int .u16 m.bi, .slice m.qA m.q.length m.qc, .slice m.sA m.s.length m.sc, .slice m.hA m.h.length m.hc, .slice m.eA m.e.length m.ec, .bool th, .int .u16 sz, .int .u8 hi, .int .u8 ve, .int .u16 fl, .slice A xs.length c, .string C, .string S, .int .i64 r] := by
        have := hr9.set_ 14 (.int .i64 r)
        simpa using this
      have hzA := hz9.keepK hkA (by omega)
      have hb2A : Below w2.heap.size w2 (w9.setCell ⟨w2.heap.size + 1, 14, none⟩ (.int .i64 r)) := hb29.setCell (by show w2.heap.size ≤ w2.heap.size + 1; omega) _
      obtain ⟨z0, f0, z1, f1, z2, f2, z3, f3, z4, f4, z5, f5, z6, f6, z7, f7, z8, f8, z9, f9, z10, f10, z11, f11, z12, f12, z13, f13, z14, f14⟩ := zreq (hzA)
      have r0 : (w9.setCell ⟨w2.heap.size + 1, 14, none⟩ (.int .i64 r)).cell? ⟨w2.heap.size + 1, 0, none⟩ = some (.int .u16 m.id) := hrA.cell 0
      have r1 : (w9.setCell ⟨w2.heap.size + 1, 14, none⟩ (.int .i64 r)).cell? ⟨w2.heap.size + 1, 1, none⟩ = some (.int .u16 m.bi) := hrA.cell 1
      have r2 : (w9.setCell ⟨w2.heap.size + 1, 14, none⟩ (.int .i64 r)).cell? ⟨w2.heap.size + 1, 2, none⟩ = some (.slice m.qA m.q.length m.qc) := hrA.cell 2
      have r3 : (w9.setCell ⟨w2.heap.size + 1, 14, none⟩ (.int .i64 r)).cell? ⟨w2.heap.size + 1, 3, none⟩ = some (.slice m.sA m.s.length m.sc) := hrA.cell 3
      have r4 : (w9.setCell ⟨w2.heap.size + 1, 14, none⟩ (.int .i64 r)).cell? ⟨w2.heap.size + 1, 4, none⟩ = some (.slice m.hA m.h.length m.hc) := hrA.cell 4
      have r5 : (w9.setCell ⟨w2.heap.size + 1, 14, none⟩ (.int .i64 r)).cell? ⟨w2.heap.size + 1, 5, none⟩ = some (.slice m.eA m.e.length m.ec) := hrA.cell 5
      have r6 : (w9.setCell ⟨w2.heap.size + 1, 14, none⟩ (.int .i64 r)).cell? ⟨w2.heap.size + 1, 6, none⟩ = some (.bool th) := hrA.cell 6
      have r7 : (w9.setCell ⟨w2.heap.size + 1, 14, none⟩ (.int .i64 r)).cell? ⟨w2.heap.size + 1, 7, none⟩ = some (.int .u16 sz) := hrA.cell 7
      have r8 : (w9.setCell ⟨w2.heap.size + 1, 14, none⟩ (.int .i64 r)).cell? ⟨w2.heap.size + 1, 8, none⟩ = some (.int .u8 hi) := hrA.cell 8
      have r9 : (w9.setCell ⟨w2.heap.size + 1, 14, none⟩ (.int .i64 r)).cell? ⟨w2.heap.size + 1, 9, none⟩ = some (.int .u8 ve) := hrA.cell 9
      have r10 : (w9.setCell ⟨w2.heap.size + 1, 14, none⟩ (.int .i64 r)).cell? ⟨w2.heap.size + 1, 10, none⟩ = some (.int .u16 fl) := hrA.cell 10
      have r11 : (w9.setCell ⟨w2.heap.size + 1, 14, none⟩ (.int .i64 r)).cell? ⟨w2.heap.size + 1, 11, none⟩ = some (.slice A xs.length c) := hrA.cell 11
      have r12 : (w9.setCell ⟨w2.heap.size + 1, 14, none⟩ (.int .i64 r)).cell? ⟨w2.heap.size + 1, 12, none⟩ = some (.string C) := hrA.cell 12
      have r13 : (w9.setCell ⟨w2.heap.size + 1, 14, none⟩ (.int .i64 r)).cell? ⟨w2.heap.size + 1, 13, none⟩ = some (.string S) := hrA.cell 13
      have r14 : (w9.setCell ⟨w2.heap.size + 1, 14, none⟩ (.int .i64 r)).cell? ⟨w2.heap.size + 1, 14, none⟩ = some (.int .i64 r) := hrA.cell 14
      have HA := Lib.hid (And.intro hzA (And.intro hb2A hiff))
      clear hr9 hz9 hb29 hkA hrA hzA hb2A hiff hb9 HC
      go_wp2_with (fail)
      have hd := HA.out.1.req (.int .u16 m.id) (.int .u16 m.bi) (.slice m.qA m.q.length m.qc) (.slice m.sA m.s.length m.sc) (.slice m.hA m.h.length m.hc) (.slice m.eA m.e.length m.ec) (.bool th) (.int .u16 sz) (.int .u8 hi) (.int .u8 ve) (.int .u16 fl) (.slice A xs.length c) (.string C) (.string S) (.int .i64 r)
      have hk := keep_req (K := fun i => i ≠ w.heap.size) (w9.setCell ⟨w2.heap.size + 1, 14, none⟩ (.int .i64 r)) (g := w.heap.size) (fun i hi => hi) (.int .u16 m.id) (.int .u16 m.bi) (.slice m.qA m.q.length m.qc) (.slice m.sA m.s.length m.sc) (.slice m.hA m.h.length m.hc) (.slice m.eA m.e.length m.ec) (.bool th) (.int .u16 sz) (.int .u8 hi) (.int .u8 ve) (.int .u16 fl) (.slice A xs.length c) (.string C) (.string S) (.int .i64 r)
      refine bodyPost_ret (res_c rfl _ _ w.heap.size 40 _ _ rfl hd Try.underlying40 rfl agg_req) rfl ?_
      obtain ⟨hzA, hb2A, hiff⟩ := HA.out
      have hbw := ((KeepK.of_below (K := fun i => i < w.heap.size) (H2.out.1.trans (hb2A.mono H2.out.1.size)) fun i hi => hi).trans (hk.mono fun i hi => by omega)).below fun i hi => hi
      have hdw := hk
      refine ⟨hbw, m, th, sz, hi, ve, fl, A, xs.length, c, C, S, r, rfl, fun hy => hiff.2 (code_yes HMM.out.2 hy HE.out.2 HCK.out), fun hr => ⟨(HMQ.out.1.below hb2A HMQ.out.1.lt).keepK hk (fun g hg => by have := HMQ.out.2 g hg; omega), HMQ.out.2, HMM.out.2, HQR.out.1, HQR.out.2, ?_⟩⟩
      obtain ⟨q, hq⟩ := hiff.1 hr
      exact ⟨ve, 0, q, hq⟩
    case neg =>
      have hbI : (bad == 0) = false := by rw [beq_eq_false_iff_ne]; exact hbz
      clear hbz
      have hk8 : KeepK (fun i => i ≠ w2.heap.size + 1) w7 w7 := KeepK.refl (fun i => i ≠ w2.heap.size + 1) w7
      have hr8 : Blk w7 (w2.heap.size + 1) 40 #[.int .u16 m.id, .int .u16 m.bi, .slice m.qA m.q.length m.qc, .slice m.sA m.s.length m.sc, .slice m.hA m.h.length m.hc, .slice m.eA m.e.length m.ec, .bool th, .int .u16 sz, .int .u8 hi, .int .u8 ve, .int .u16 fl, .slice A xs.length c, .string ⟨#[]⟩, .string ⟨#[]⟩, .int .i64 0] := by
        exact H7.out.2.2.1
      have hm8 := H7.out.1.keepK hk8 (by omega)
      have he8 := H7.out.2.1.keepK hk8 (by omega)
      have hz8 := H7.out.2.2.2.1.keepK hk8 (by omega)
      have hb28 : Below w2.heap.size w2 w7 := ((KeepK.of_below (K := fun i => i < w2.heap.size) H7.out.2.2.2.2 fun i hi => hi).trans (hk8.mono fun i hi => by omega)).below fun i hi => hi
      have m0 : w7.cell? ⟨w2.heap.size, 0, none⟩ = some (.int .u16 m.id) := hm8.cell 0
      have m1 : w7.cell? ⟨w2.heap.size, 1, none⟩ = some (.int .u16 m.bi) := hm8.cell 1
      have m2 : w7.cell? ⟨w2.heap.size, 2, none⟩ = some (.slice m.qA m.q.length m.qc) := hm8.cell 2
      have m3 : w7.cell? ⟨w2.heap.size, 3, none⟩ = some (.slice m.sA m.s.length m.sc) := hm8.cell 3
      have m4 : w7.cell? ⟨w2.heap.size, 4, none⟩ = some (.slice m.hA m.h.length m.hc) := hm8.cell 4
      have m5 : w7.cell? ⟨w2.heap.size, 5, none⟩ = some (.slice m.eA m.e.length m.ec) := hm8.cell 5
      have e0 : w7.cell? ⟨w4.heap.size, 0, none⟩ = some (.bool th) := he8.cell 0
      have e1 : w7.cell? ⟨w4.heap.size, 1, none⟩ = some (.int .u16 sz) := he8.cell 1
      have e2 : w7.cell? ⟨w4.heap.size, 2, none⟩ = some (.int .u8 hi) := he8.cell 2
      have e3 : w7.cell? ⟨w4.heap.size, 3, none⟩ = some (.int .u8 ve) := he8.cell 3
      have e4 : w7.cell? ⟨w4.heap.size, 4, none⟩ = some (.int .u16 fl) := he8.cell 4
      have e5 : w7.cell? ⟨w4.heap.size, 5, none⟩ = some (.slice A xs.length c) := he8.cell 5
      have HC := Lib.hid (code_any m th sz hi ve fl A xs.length c bad w7 (HMM.out.1.below hb28) ⟨HMM.out.2.lq.1, HMM.out.2.lq.2.1, HMM.out.2.lq.2.2, HMM.out.2.ls, HMM.out.2.lh⟩)
      have H8 := Lib.hid (And.intro hr8 (And.intro hz8 hb28))
      clear hk8 hr8 hm8 he8 hz8 hb28
      dsimp only [MRec.val, ednsV] at HC
      go_wp2_with (fail)
      refine HC.out.mono ?_
      rintro e w9 ⟨hb9, r, rfl, hiff⟩
      have hr9 := H8.out.1.below hb9 H8.out.1.lt
      have hz9 := H8.out.2.1.below hb9 H8.out.2.1.lt
      have hb29 := H8.out.2.2.trans (hb9.mono H8.out.2.2.size)
      have c14 := hr9.cell 14
      have f14 := hr9.frozen 14
      have hkA : KeepK (fun i => i ≠ w2.heap.size + 1) w9 (w9.setCell ⟨w2.heap.size + 1, 14, none⟩ (.int .i64 r)) := (KeepK.refl _ w9).setCell (p := ⟨w2.heap.size + 1, 14, none⟩) (fun i hi => hi) _
      have hrA : Blk (w9.setCell ⟨w2.heap.size + 1, 14, none⟩ (.int .i64 r)) (w2.heap.size + 1) 40 #[.int .u16 m.id, .int .u16 m.bi, .slice m.qA m.q.length m.qc, .slice m.sA m.s.length m.sc, .slice m.hA m.h.length m.hc, .slice m.eA m.e.length m.ec, .bool th, .int .u16 sz, .int .u8 hi, .int .u8 ve, .int .u16 fl, .slice A xs.length c, .string ⟨#[]⟩, .string ⟨#[]⟩, .int .i64 r] := by
        have := hr9.set_ 14 (.int .i64 r)
        simpa using this
      have hzA := hz9.keepK hkA (by omega)
      have hb2A : Below w2.heap.size w2 (w9.setCell ⟨w2.heap.size + 1, 14, none⟩ (.int .i64 r)) := hb29.setCell (by show w2.heap.size ≤ w2.heap.size + 1; omega) _
      obtain ⟨z0, f0, z1, f1, z2, f2, z3, f3, z4, f4, z5, f5, z6, f6, z7, f7, z8, f8, z9, f9, z10, f10, z11, f11, z12, f12, z13, f13, z14, f14⟩ := zreq (hzA)
      have r0 : (w9.setCell ⟨w2.heap.size + 1, 14, none⟩ (.int .i64 r)).cell? ⟨w2.heap.size + 1, 0, none⟩ = some (.int .u16 m.id) := hrA.cell 0
      have r1 : (w9.setCell ⟨w2.heap.size + 1, 14, none⟩ (.int .i64 r)).cell? ⟨w2.heap.size + 1, 1, none⟩ = some (.int .u16 m.bi) := hrA.cell 1
      have r2 : (w9.setCell ⟨w2.heap.size + 1, 14, none⟩ (.int .i64 r)).cell? ⟨w2.heap.size + 1, 2, none⟩ = some (.slice m.qA m.q.length m.qc) := hrA.cell 2
      have r3 : (w9.setCell ⟨w2.heap.size + 1, 14, none⟩ (.int .i64 r)).cell? ⟨w2.heap.size + 1, 3, none⟩ = some (.slice m.sA m.s.length m.sc) := hrA.cell 3
      have r4 : (w9.setCell ⟨w2.heap.size + 1, 14, none⟩ (.int .i64 r)).cell? ⟨w2.heap.size + 1, 4, none⟩ = some (.slice m.hA m.h.length m.hc) := hrA.cell 4
      have r5 : (w9.setCell ⟨w2.heap.size + 1, 14, none⟩ (.int .i64 r)).cell? ⟨w2.heap.size + 1, 5, none⟩ = some (.slice m.eA m.e.length m.ec) := hrA.cell 5
      have r6 : (w9.setCell ⟨w2.heap.size + 1, 14, none⟩ (.int .i64 r)).cell? ⟨w2.heap.size + 1, 6, none⟩ = some (.bool th) := hrA.cell 6
      have r7 : (w9.setCell ⟨w2.heap.size + 1, 14, none⟩ (.int .i64 r)).cell? ⟨w2.heap.size + 1, 7, none⟩ = some (.int .u16 sz) := hrA.cell 7
      have r8 : (w9.setCell ⟨w2.heap.size + 1, 14, none⟩ (.int .i64 r)).cell? ⟨w2.heap.size + 1, 8, none⟩ = some (.int .u8 hi) := hrA.cell 8
      have r9 : (w9.setCell ⟨w2.heap.size + 1, 14, none⟩ (.int .i64 r)).cell? ⟨w2.heap.size + 1, 9, none⟩ = some (.int .u8 ve) := hrA.cell 9
      have r10 : (w9.setCell ⟨w2.heap.size + 1, 14, none⟩ (.int .i64 r)).cell? ⟨w2.heap.size + 1, 10, none⟩ = some (.int .u16 fl) := hrA.cell 10
      have r11 : (w9.setCell ⟨w2.heap.size + 1, 14, none⟩ (.int .i64 r)).cell? ⟨w2.heap.size + 1, 11, none⟩ = some (.slice A xs.length c) := hrA.cell 11
      have r12 : (w9.setCell ⟨w2.heap.size + 1, 14, none⟩ (.int .i64 r)).cell? ⟨w2.heap.size + 1, 12, none⟩ = some (.string ⟨#[]⟩) := hrA.cell 12
      have r13 : (w9.setCell ⟨w2.heap.size + 1, 14, none⟩ (.int .i64 r)).cell? ⟨w2.heap.size + 1, 13, none⟩ = some (.string ⟨#[]⟩) := hrA.cell 13
      have r14 : (w9.setCell ⟨w2.heap.size + 1, 14, none⟩ (.int .i64 r)).cell? ⟨w2.heap.size + 1, 14, none⟩ = some (.int .i64 r) := hrA.cell 14
      have HA := Lib.hid (And.intro hzA (And.intro hb2A hiff))
      clear hr9 hz9 hb29 hkA hrA hzA hb2A hiff hb9 HC
      go_wp2_with (fail)
      have hd := HA.out.1.req (.int .u16 m.id) (.int .u16 m.bi) (.slice m.qA m.q.length m.qc) (.slice m.sA m.s.length m.sc) (.slice m.hA m.h.length m.hc) (.slice m.eA m.e.length m.ec) (.bool th) (.int .u16 sz) (.int .u8 hi) (.int .u8 ve) (.int .u16 fl) (.slice A xs.length c) (.string ⟨#[]⟩) (.string ⟨#[]⟩) (.int .i64 r)
      have hk := keep_req (K := fun i => i ≠ w.heap.size) (w9.setCell ⟨w2.heap.size + 1, 14, none⟩ (.int .i64 r)) (g := w.heap.size) (fun i hi => hi) (.int .u16 m.id) (.int .u16 m.bi) (.slice m.qA m.q.length m.qc) (.slice m.sA m.s.length m.sc) (.slice m.hA m.h.length m.hc) (.slice m.eA m.e.length m.ec) (.bool th) (.int .u16 sz) (.int .u8 hi) (.int .u8 ve) (.int .u16 fl) (.slice A xs.length c) (.string ⟨#[]⟩) (.string ⟨#[]⟩) (.int .i64 r)
      refine bodyPost_ret (res_c rfl _ _ w.heap.size 40 _ _ rfl hd Try.underlying40 rfl agg_req) rfl ?_
      obtain ⟨hzA, hb2A, hiff⟩ := HA.out
      have hbw := ((KeepK.of_below (K := fun i => i < w.heap.size) (H2.out.1.trans (hb2A.mono H2.out.1.size)) fun i hi => hi).trans (hk.mono fun i hi => by omega)).below fun i hi => hi
      have hdw := hk
      refine ⟨hbw, m, th, sz, hi, ve, fl, A, xs.length, c, ⟨#[]⟩, ⟨#[]⟩, r, rfl, fun hy => hiff.2 (code_yes HMM.out.2 hy HE.out.2 HCK.out), fun hr => ⟨(HMQ.out.1.below hb2A HMQ.out.1.lt).keepK hk (fun g hg => by have := HMQ.out.2 g hg; omega), HMQ.out.2, HMM.out.2, HQR.out.1, HQR.out.2, ?_⟩⟩
      obtain ⟨q, hq⟩ := hiff.1 hr
      exact ⟨ve, bad, q, hq⟩
end Go.Proofs.Ytgfpnkakglgokaa

namespace Go.Proofs.Ytgfpnkakglgokaa
open Go.RowKit Go.Lib

/-- The questions alone. -/
def askM (id bi : Int) (A : Option Addr) (q : List QRec) (c : Nat) : MRec := ⟨id, bi, A, q, c, none, [], 0, none, [], 0, none, [], 0⟩
def StripP (m : MRec) (w : World) (e : Ending) (w' : World) : Prop :=
  ∃ A c, e = .returned (askM m.id m.bi A m.q c).val ∧ QTabl w' A m.q ∧ m.q.length ≤ c ∧ c ≤ maxLen ∧ Below w.heap.size w w'
set_option maxRecDepth 100000 in
set_option maxHeartbeats 4000000 in
theorem strip_any (m : MRec) (th : Bool) (sz hi ve fl : Int) (A : Option Addr) (n c : Nat) (cl sv : ByteArray) (code : Int) (w : World) (hq : QTabl w m.qA m.q) (hl : m.q.length ≤ 4096) :
    Calls Try.prog 9 #[reqV m th sz hi ve fl A n c cl sv code] w (StripP m w) := by
  obtain ⟨V, hV⟩ : ∃ V, (w.alloc (.cells #[.int .u16 m.id, .int .u16 m.bi, .slice m.qA m.q.length m.qc, .slice m.sA m.s.length m.sc, .slice m.hA m.h.length m.hc, .slice m.eA m.e.length m.ec, .bool th, .int .u16 sz, .int .u8 hi, .int .u8 ve, .int .u16 fl, .slice A n c, .string cl, .string sv, .int .i64 code] 40)).alloc (.cells #[.int .u16 0, .int .u16 0, .slice none 0 0, .slice none 0 0, .slice none 0 0, .slice none 0 0] 35) = V := ⟨_, rfl⟩
  have hb0 : Below w.heap.size w V := by rw [← hV]; exact ((Below.refl _ _).alloc (Nat.le_refl _) _).alloc (by simp) _
  have hx : Blk V w.heap.size 40 #[.int .u16 m.id, .int .u16 m.bi, .slice m.qA m.q.length m.qc, .slice m.sA m.s.length m.sc, .slice m.hA m.h.length m.hc, .slice m.eA m.e.length m.ec, .bool th, .int .u16 sz, .int .u8 hi, .int .u8 ve, .int .u16 fl, .slice A n c, .string cl, .string sv, .int .i64 code] := by rw [← hV]; exact (Blk.new w _ _).alloc _
  have hr : Blk V (w.heap.size + 1) 35 #[.int .u16 0, .int .u16 0, .slice none 0 0, .slice none 0 0, .slice none 0 0, .slice none 0 0] := by
    rw [← hV]
    have := Blk.new (w.alloc (.cells #[.int .u16 m.id, .int .u16 m.bi, .slice m.qA m.q.length m.qc, .slice m.sA m.s.length m.sc, .slice m.hA m.h.length m.hc, .slice m.eA m.e.length m.ec, .bool th, .int .u16 sz, .int .u8 hi, .int .u8 ve, .int .u16 fl, .slice A n c, .string cl, .string sv, .int .i64 code] 40)) 35 #[.int .u16 0, .int .u16 0, .slice none 0 0, .slice none 0 0, .slice none 0 0, .slice none 0 0]
    rw [World.size_alloc] at this
    exact this
  have HX := Lib.hid (And.intro hb0 (And.intro hx hr))
  have HC : RowKit.Hid (∀ W : World, KeepK (fun i => i < V.heap.size ∧ i ≠ w.heap.size + 1) V W → W.cell? ⟨w.heap.size, 0, none⟩ = some (.int .u16 m.id) ∧ W.cell? ⟨w.heap.size, 1, none⟩ = some (.int .u16 m.bi) ∧ W.cell? ⟨w.heap.size, 2, none⟩ = some (.slice m.qA m.q.length m.qc)) := Lib.hid (fun W hW => by
    have := hx.keepK hW ⟨hx.lt, by omega⟩
    exact ⟨this.cell 0, this.cell 1, this.cell 2⟩)
  have HQ := Lib.hid (fun W (hW : Below w.heap.size w W) => cloneQ_any m.q m.qA m.qc W (hq.below hW) (by omega))
  clear hb0 hx hr hq
  unfold reqV
  go_enter Try.func9, Try.ntmps9
  go_wp2_with (fail)
  have hC : KeepK (fun i => i < V.heap.size ∧ i ≠ w.heap.size + 1) V V.drew := (KeepK.refl _ V).drew
  clear hV
  refine wp_region_class (fun W => KeepK (fun i => i < V.heap.size ∧ i ≠ w.heap.size + 1) V W) (by kernel_rfl) ?_
  refine wpAnyP_take (i := 0) (v := (.pointer (some ⟨w.heap.size, 0, none⟩))) rfl (by kernel_rfl) (by kernel_rfl) (by kernel_rfl) (fun _ _ _ h => h) ?_ ⟨Or.inl ⟨by rfl, ?_⟩⟩ ?_
  · exact hC
  · intro W hW; obtain ⟨c0, c1, c2⟩ := HC.out W hW; go_simp
  refine wpAnyP_take (i := 1) (v := (.pointer (some ⟨w.heap.size, 0, none⟩))) rfl (by kernel_rfl) (by kernel_rfl) (by kernel_rfl) (fun _ _ _ h => h) ?_ ⟨Or.inl ⟨by rfl, ?_⟩⟩ ?_
  · exact hC
  · intro W hW; obtain ⟨c0, c1, c2⟩ := HC.out W hW; go_simp
  refine wpAnyP_take (i := 2) (v := (.int .u16 m.id)) rfl (by kernel_rfl) (by kernel_rfl) (by kernel_rfl) (fun _ _ _ h => h) ?_ ⟨Or.inl ⟨by rfl, ?_⟩⟩ ?_
  · exact hC
  · intro W hW; obtain ⟨c0, c1, c2⟩ := HC.out W hW; go_simp
  refine wpAnyP_take (i := 3) (v := (.pointer (some ⟨w.heap.size, 0, none⟩))) rfl (by kernel_rfl) (by kernel_rfl) (by kernel_rfl) (fun _ _ _ h => h) ?_ ⟨Or.inl ⟨by rfl, ?_⟩⟩ ?_
  · exact hC
  · intro W hW; obtain ⟨c0, c1, c2⟩ := HC.out W hW; go_simp
  refine wpAnyP_take (i := 4) (v := (.pointer (some ⟨w.heap.size, 1, none⟩))) rfl (by kernel_rfl) (by kernel_rfl) (by kernel_rfl) (fun _ _ _ h => h) ?_ ⟨Or.inl ⟨by rfl, ?_⟩⟩ ?_
  · exact hC
  · intro W hW; obtain ⟨c0, c1, c2⟩ := HC.out W hW; go_simp
  refine wpAnyP_take (i := 5) (v := (.int .u16 m.bi)) rfl (by kernel_rfl) (by kernel_rfl) (by kernel_rfl) (fun _ _ _ h => h) ?_ ⟨Or.inl ⟨by rfl, ?_⟩⟩ ?_
  · exact hC
  · intro W hW; obtain ⟨c0, c1, c2⟩ := HC.out W hW; go_simp
  refine wpAnyP_take (i := 6) (v := (.pointer (some ⟨w.heap.size, 0, none⟩))) rfl (by kernel_rfl) (by kernel_rfl) (by kernel_rfl) (fun _ _ _ h => h) ?_ ⟨Or.inl ⟨by rfl, ?_⟩⟩ ?_
  · exact hC
  · intro W hW; obtain ⟨c0, c1, c2⟩ := HC.out W hW; go_simp
  refine wpAnyP_take (i := 7) (v := (.pointer (some ⟨w.heap.size, 2, none⟩))) rfl (by kernel_rfl) (by kernel_rfl) (by kernel_rfl) (fun _ _ _ h => h) ?_ ⟨Or.inl ⟨by rfl, ?_⟩⟩ ?_
  · exact hC
  · intro W hW; obtain ⟨c0, c1, c2⟩ := HC.out W hW; go_simp
  refine wpAnyP_take (i := 8) (v := (.slice m.qA m.q.length m.qc)) rfl (by kernel_rfl) (by kernel_rfl) (by kernel_rfl) (fun _ _ _ h => h) ?_ ⟨Or.inl ⟨by rfl, ?_⟩⟩ ?_
  · exact hC
  · intro W hW; obtain ⟨c0, c1, c2⟩ := HC.out W hW; go_simp
  refine wpAnyP_ready (rs := [9]) (by kernel_rfl) (by simp) ?_
  refine AllReadyP.cons rfl (fun K hK => ?_) AllReadyP.nil
  go_simp
  refine (HQ.out V.drew HX.out.1.drew).mono ?_
  rintro e w3 ⟨A3, c3, rfl, hsl, hown, hb3⟩
  have hk3 : KeepK (fun i => i < V.heap.size ∧ i ≠ w.heap.size + 1) V w3 := hC.trans (KeepK.of_below hb3 fun i hi => hi.1)
  refine hK _ _ hk3 ?_
  clear hK K
  have hr3 := HX.out.2.2.below (show Below V.heap.size V w3 from (Below.refl _ _).drew.trans hb3) HX.out.2.2.lt
  have q0 := hr3.cell 0
  have q1 := hr3.cell 1
  have q2 := hr3.cell 2
  have q3 := hr3.cell 3
  have q4 := hr3.cell 4
  have q5 := hr3.cell 5
  have f0 := hr3.frozen 0
  have f1 := hr3.frozen 1
  have f2 := hr3.frozen 2
  have f3 := hr3.frozen 3
  have f4 := hr3.frozen 4
  have f5 := hr3.frozen 5
  have hb3' : Below V.heap.size V w3 := (Below.refl _ _).drew.trans hb3
  have H3 := Lib.hid (And.intro hsl (And.intro hown (And.intro hr3 (And.intro hk3 hb3'))))
  clear hsl hown hb3 hk3 hr3 hb3'
  refine wpAnyP_ready (rs := [10]) (by kernel_rfl) (by simp) ?_
  refine AllReadyP.cons rfl (fun K hK => ?_) AllReadyP.nil
  go_simp
  refine hK _ _ H3.out.2.2.2.1 ?_
  clear hK K
  refine wpAnyP_ready (rs := [11]) (by kernel_rfl) (by simp) ?_
  refine AllReadyP.cons rfl (fun K hK => ?_) AllReadyP.nil
  go_simp
  have hkm := keep_msg (K := fun i => i ≠ w.heap.size + 1) w3 (g := w.heap.size + 1) (fun i hi => hi) (.int .u16 m.id) (.int .u16 m.bi) (.slice A3 m.q.length c3) (.slice none 0 0) (.slice none 0 0) (.slice none 0 0)
  have hd := H3.out.2.2.1.msg (.int .u16 m.id) (.int .u16 m.bi) (.slice A3 m.q.length c3) (.slice none 0 0) (.slice none 0 0) (.slice none 0 0)
  refine hK _ _ (H3.out.2.2.2.1.trans (hkm.mono fun i hi => hi.2)) ?_
  clear hK K q0 q1 q2 q3 q4 q5 f0 f1 f2 f3 f4 f5
  have HD := Lib.hid (And.intro hkm hd)
  clear hkm hd
  refine wpAnyP_done (by kernel_rfl) ?_ _
  dsimp only [calmP]
  go_wp2_with (fail)
  obtain ⟨hkm, hd⟩ := HD.out
  refine bodyPost_ret (res_c rfl _ _ (w.heap.size + 1) 35 _ _ rfl hd Try.underlying35 rfl agg_msg) rfl ?_
  obtain ⟨hsl, hown, hr3, hk3, hb3⟩ := H3.out
  have hlt := HX.out.2.2.lt
  obtain ⟨_, _, e1, e2, e3⟩ := hsl.shape
  injection e1 with _ _ e1
  refine ⟨A3, c3, rfl, GTab.of_sl QRec.three (c := c3) (hsl.keepK hkm fun g hg => by have h9 : V.heap.size ≤ g := hown g hg; omega), by omega, by omega, ((KeepK.of_below (K := fun i => i < w.heap.size) (HX.out.1.trans (hb3.mono HX.out.1.size)) fun i hi => hi).trans (hkm.mono fun i hi => by omega)).below fun i hi => hi⟩
end Go.Proofs.Ytgfpnkakglgokaa
