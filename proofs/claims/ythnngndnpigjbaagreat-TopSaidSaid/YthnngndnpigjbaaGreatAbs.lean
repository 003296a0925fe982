/- The walks of package absent: right, Head and its closure. Conditions: none. The walks of package absent: code, Name, Type and TTL. Conditions: none. The walks of package absent: Type and its closure. Conditions: none. -/
import Derived.Laws.Cover1
import Derived.Test.YthnngndnpigjbaaGreatRrOk
import Derived.Test.YthnngndnpigjbaaGreatWithin
import Derived.Deep.DeepCutAuto
import Derived.Test.YthnngndnpigjbaaGreatRdLeast
namespace Go.Proofs.YthnngndnpigjbaaGreat
open Go.RowKit Go.Lib

set_option maxRecDepth 100000 in
set_option maxHeartbeats 2000000 in
theorem absRight_any (r : RRec) (hn : r.n.size ≤ maxLen) (hd : r.d.size ≤ 140737488355328) (w : World) :
    Calls Tryz.prog 43 #[r.val] w fun e w' => e = .returned (.bool (rightB r)) ∧ Below w.heap.size w w' := by
  have HC := Lib.hid (fun W => recCheck_any r hn hd W)
  have hcd : (chkR r = true ∧ codeR r = 0) ∨ (chkR r = false ∧ codeR r = 2) := by
    cases h : chkR r with
    | true => exact .inl ⟨rfl, codeR_yes h⟩
    | false => exact .inr ⟨rfl, codeR_no h⟩
  unfold rightB
  obtain ⟨k, hk⟩ : ∃ k, codeR r = k := ⟨_, rfl⟩
  rw [hk] at HC hcd
  obtain ⟨b, hb⟩ : ∃ b, chkR r = b := ⟨_, rfl⟩
  rw [hb] at hcd ⊢
  clear hk hb
  obtain ⟨rn, rt, rc, rl, rd⟩ := r
  dsimp only [RRec.val] at *
  have HW := Lib.hid (show Below w.heap.size w (w.alloc (.cells #[.string rn, .int .u16 rt, .int .u16 rc, .int .u32 rl, .string rd] 33)) from (Below.refl _ _).alloc (Nat.le_refl _) _)
  by_cases h1 : rc = 1
  · subst h1
    clear hn hd
    go_enter Tryz.func43, Tryz.ntmps43
    go_wp2_with (fail)
    with_reducible refine (HC.out _).mono ?_
    rintro e w2 ⟨rfl, hb2⟩
    have HB := Lib.hid (HW.out.trans (hb2.mono HW.out.size))
    clear hb2 HC
    rcases hcd with ⟨rfl, rfl⟩ | ⟨rfl, rfl⟩
    · go_wp2_with (fail)
      go_ret
      exact ⟨rfl, HB.out⟩
    · go_wp2_with (fail)
      go_ret
      exact ⟨rfl, HB.out⟩
  · have e1 : (rc == 1) = false := by simp [h1]
    rw [decide_eq_false h1, Bool.false_and]
    clear HC hcd hn hd h1
    go_enter Tryz.func43, Tryz.ntmps43
    go_wp2_with (fail)
    go_ret
    exact ⟨rfl, HW.out⟩
/-- Is it the SOA? -/
def headB (q z : Bs) (r : RRec) : Bool := decide (r.t = 6) && (withinB r.nb z && (withinB q r.nb && rightB r))
set_option maxRecDepth 100000 in
set_option maxHeartbeats 4000000 in
theorem head1_any (r : RRec) (qn z : ByteArray) (qt qc : Int) (bz bq : Nat) (w : World) (hn : r.n.size ≤ maxLen) (hd : r.d.size ≤ 140737488355328) (hqn : qn.size ≤ maxLen) (hzn : z.size ≤ maxLen)
    (hz : Blk w bz 9 #[.string z]) (hq : Blk w bq 40 #[.string qn, .int .u16 qt, .int .u16 qc]) :
    Calls Tryz.prog 62 #[r.val, .pointer (some ⟨bz, 0, none⟩), .pointer (some ⟨bq, 0, none⟩)] w fun e w' => e = .returned (.bool (headB qn.data.toList z.data.toList r)) ∧ Below w.heap.size w w' := by
  have HR := Lib.hid (fun W => absRight_any r hn hd W)
  have HA := Lib.hid (fun W => Within_any r.n z hn hzn W)
  have HB := Lib.hid (fun W => Within_any qn r.n hqn hn W)
  unfold headB
  obtain ⟨b1, hb1⟩ : ∃ b, withinB r.n.data.toList z.data.toList = b := ⟨_, rfl⟩
  obtain ⟨b2, hb2⟩ : ∃ b, withinB qn.data.toList r.n.data.toList = b := ⟨_, rfl⟩
  obtain ⟨b3, hb3⟩ : ∃ b, rightB r = b := ⟨_, rfl⟩
  rw [hb1] at HA
  rw [hb2] at HB
  rw [hb3] at HR
  rw [show withinB r.nb z.data.toList = b1 from hb1, show withinB qn.data.toList r.nb = b2 from hb2, hb3]
  clear hb1 hb2 hb3 hn hd hqn hzn
  obtain ⟨rn, rt, rc, rl, rd⟩ := r
  dsimp only [RRec.val] at *
  have HW := Lib.hid (show Below w.heap.size w (w.alloc (.cells #[.string rn, .int .u16 rt, .int .u16 rc, .int .u32 rl, .string rd] 33)) from (Below.refl _ _).alloc (Nat.le_refl _) _)
  have HN := Lib.hid (Blk.new w 33 #[.string rn, .int .u16 rt, .int .u16 rc, .int .u32 rl, .string rd])
  have z0 := hz.cell 0
  have q0 := hq.cell 0
  have hzl := hz.lt
  have hql := hq.lt
  have HQ := Lib.hid (hq.alloc (.cells #[.string rn, .int .u16 rt, .int .u16 rc, .int .u32 rl, .string rd] 33))
  clear hz hq
  by_cases h6 : rt = 6
  · subst h6
    go_enter Tryz.func62, Tryz.ntmps62
    go_wp2_with (fail)
    with_reducible refine (HA.out _).mono ?_
    rintro e w2 ⟨rfl, hb2⟩
    have B2 := Lib.hid (HW.out.trans (hb2.mono HW.out.size))
    cases b1 with
    | false =>
      clear hb2
      go_wp2_with (fail)
      go_ret
      exact ⟨rfl, B2.out⟩
    | true =>
      have q2 := (HQ.out.below hb2 HQ.out.lt).cell 0
      have x2 := (HN.out.below hb2 HN.out.lt).cell 0
      have N2 := Lib.hid (HN.out.below hb2 HN.out.lt)
      have hl2 := N2.out.lt
      clear hb2
      go_wp2_with (fail)
      with_reducible refine (HB.out _).mono ?_
      rintro e w3 ⟨rfl, hb3⟩
      have B3 := Lib.hid (B2.out.trans (hb3.mono B2.out.size))
      cases b2 with
      | false =>
        clear hb3
        go_wp2_with (fail)
        go_ret
        exact ⟨rfl, B3.out⟩
      | true =>
        have N3 := N2.out.below hb3 N2.out.lt
        have x0 := N3.cell 0; have x1 := N3.cell 1; have x4 := N3.cell 2; have x5 := N3.cell 3; have x6 := N3.cell 4
        clear hb3 N3 q2 x2
        go_wp2_with (fail)
        with_reducible refine (HR.out _).mono ?_
        rintro e w4 ⟨rfl, hb4⟩
        have B4 := Lib.hid (B3.out.trans (hb4.mono B3.out.size))
        clear hb4
        go_wp2_with (fail)
        go_ret
        exact ⟨rfl, B4.out⟩
  · have e6 : (rt == 6) = false := by simp [h6]
    rw [decide_eq_false h6, Bool.false_and]
    clear h6
    go_enter Tryz.func62, Tryz.ntmps62
    go_wp2_with (fail)
    go_ret
    exact ⟨rfl, HW.out⟩

/-- A closure's verdict on a record, in any later world. -/
def idxH (p : RRec → Bool) (xs : List RRec) : Int := match xs.findIdx? p with
  | none => -1
  | some i => (i : Int)
theorem idxH_hit {p : RRec → Bool} {xs : List RRec} {k : Nat} {e : RRec} (he : xs[k]? = some e) (hp : p e = true) (hb : ∀ j f, j < k → xs[j]? = some f → p f = false) : idxH p xs = (k : Int) := by
  have : xs.findIdx? p = some k := by
    rw [List.findIdx?_eq_some_iff_getElem]
    obtain ⟨hk, rfl⟩ := List.getElem?_eq_some_iff.1 he
    exact ⟨hk, hp, fun j hj => by simpa using hb j _ hj (List.getElem?_eq_getElem (by omega))⟩
  unfold idxH
  rw [this]
theorem idxH_miss {p : RRec → Bool} {xs : List RRec} (hb : ∀ j f, j < xs.length → xs[j]? = some f → p f = false) : idxH p xs = -1 := by
  have : xs.findIdx? p = none := by
    rw [List.findIdx?_eq_none_iff]
    intro x hx
    obtain ⟨j, hj, rfl⟩ := List.getElem_of_mem hx
    exact hb j _ hj (List.getElem?_eq_getElem hj)
  unfold idxH
  rw [this]
theorem idxH_cases (p : RRec → Bool) (xs : List RRec) : (idxH p xs = -1 ∧ xs.find? p = none) ∨ ∃ (i : Nat) (e : RRec), idxH p xs = (i : Int) ∧ xs[i]? = some e ∧ xs.find? p = some e ∧ p e = true := by
  cases h : xs.findIdx? p with
  | none =>
    refine .inl ⟨by unfold idxH; rw [h], ?_⟩
    rw [List.findIdx?_eq_none_iff] at h
    rw [List.find?_eq_none]
    intro x hx
    rw [h x hx]; simp
  | some i =>
    rw [List.findIdx?_eq_some_iff_getElem] at h
    obtain ⟨hi, h1, h2⟩ := h
    refine .inr ⟨i, xs[i], by unfold idxH; rw [(List.findIdx?_eq_some_iff_getElem).2 ⟨hi, h1, h2⟩], List.getElem?_eq_getElem hi, ?_, h1⟩
    rw [List.find?_eq_some_iff_getElem]
    exact ⟨h1, i, hi, rfl, fun j hj => by simpa using h2 j hj⟩
structure ClosH (w : World) (qn z : ByteArray) (qt qc : Int) (bz bq : Nat) : Prop where
  zb : Blk w bz 9 #[.string z]
  qb : Blk w bq 40 #[.string qn, .int .u16 qt, .int .u16 qc]
  ql : qn.size ≤ maxLen
  zl : z.size ≤ maxLen
def RRec.fits (r : RRec) : Prop := r.n.size ≤ maxLen ∧ r.d.size ≤ 140737488355328
set_option maxHeartbeats 1000000 in
set_option maxRecDepth 100000 in
theorem indexH_any (xs : List RRec) (A : Option Addr) (c : Nat) (qn z : ByteArray) (qt qc : Int) (bz bq : Nat) (w : World)
    (hT : RTab w A xs) (hC : ClosH w qn z qt qc bz bq) (hbig : xs.length ≤ 9223372036854775807) (hf : ∀ r ∈ xs, r.fits) :
    Calls Tryz.prog 61 #[.slice A xs.length c, .func (.func 62) #[] #[.pointer (some ⟨bz, 0, none⟩), .pointer (some ⟨bq, 0, none⟩)]] w fun e w' => e = .returned (.int .i64 (idxH (headB qn.data.toList z.data.toList) xs)) ∧ Below w.heap.size w w' := by
  have HT := Lib.hid hT
  have HK := Lib.hid (And.intro hC hf)
  obtain ⟨P, hP⟩ : ∃ P, headB qn.data.toList z.data.toList = P := ⟨_, rfl⟩
  rw [hP]
  have HP := Lib.hid hP
  clear hT hC hf hP
  go_enter Tryz.func61, Tryz.ntmps61
  go_wp2
  go_loopg [5, 8] xs.length (fun gg _ s8 wr => ∃ kk : Nat, kk ≤ xs.length ∧ xs.length - kk ≤ gg ∧ s8 = .int .i64 kk ∧ Aside (Below w.heap.size w wr) ∧ Aside (∀ j f, j < kk → xs[j]? = some f → P f = false))
  case atStart => exact ⟨0, Nat.zero_le _, by omega, rfl, Below.refl _ w, fun j _ hj => absurd hj (Nat.not_lt_zero _)⟩
  case round =>
    obtain ⟨kk, hkk, hg, rfl, BW, AA⟩ := hrel
    by_cases hlt : kk < xs.length
    · have hltz : (kk : Int) < (xs.length : Int) := by omega
      have HTr := HT.out.below BW.out
      obtain ⟨e, he⟩ : ∃ e, xs[kk]? = some e := ⟨_, List.getElem?_eq_getElem hlt⟩
      obtain ⟨b, off, rfl, hbs, c0, c1, c2, c3, c4⟩ := HTr.cells he
      have hfe := HK.out.2 e (List.mem_of_getElem? he)
      have hcall := head1_any e qn z qt qc bz bq wr hfe.1 hfe.2 HK.out.1.ql HK.out.1.zl (HK.out.1.zb.below BW.out HK.out.1.zb.lt) (HK.out.1.qb.below BW.out HK.out.1.qb.lt)
      rw [HP.out] at hcall
      rw [show e.val = .agg #[.string e.n, .int .u16 e.t, .int .u16 e.c, .int .u32 e.l, .string e.d] from rfl] at hcall
      have HE := Lib.hid he
      have hsize := BW.out.size
      clear HTr he hfe
      cases hq : P e with
      | true =>
        have hq2 : P e = true := hq
        rw [hq2] at hcall
        have HQ := Lib.hid hq
        clear hq hq2
        go_wp2_with (fail)
        with_reducible refine hcall.mono ?_
        rintro e w' ⟨rfl, hb'⟩
        go_wp2_with (fail)
        go_ret
        refine ⟨?_, BW.out.trans (hb'.mono hsize)⟩
        rw [idxH_hit HE.out HQ.out AA.out]; rfl
      | false =>
        have hq2 : P e = false := hq
        rw [hq2] at hcall
        have HQ := Lib.hid hq
        clear hq hq2
        go_wp2_with (fail)
        with_reducible refine hcall.mono ?_
        rintro e w' ⟨rfl, hb'⟩
        go_wp2_with (fail)
        go_roundg (xs.length - (kk + 1))
        case measure => omega
        case rel =>
          refine ⟨kk + 1, by omega, by omega, by go_num, BW.out.trans (hb'.mono hsize), (show Aside _ from fun j f hj hf => ?_)⟩
          by_cases h : j = kk
          · subst h
            rw [HE.out] at hf
            cases hf
            exact HQ.out
          · exact AA.out j f (by omega) hf
    · obtain rfl : kk = xs.length := by omega
      clear hlt
      go_wp2
      go_ret
      refine ⟨?_, BW.out⟩
      rw [idxH_miss AA.out]; rfl
def zeroRR : Value := .agg #[.string ⟨#[]⟩, .int .u16 0, .int .u16 0, .int .u32 0, .string ⟨#[]⟩]
/-- What Head tells. -/
def headV (o : Option RRec) : Value := match o with
  | none => .tuple #[zeroRR, .int .i64 3]
  | some r => .tuple #[r.val, .int .i64 0]
theorem blk5c {w : World} {g : Nat} {t : TypeId} {a0 a1 a2 a3 a4 : Value} (h : Blk w g t #[a0, a1, a2, a3, a4]) (b0 b1 b2 b3 b4 : Value) :
    Blk (((((w.setCell ⟨g, 0, none⟩ b0).setCell ⟨g, 1, none⟩ b1).setCell ⟨g, 2, none⟩ b2).setCell ⟨g, 3, none⟩ b3).setCell ⟨g, 4, none⟩ b4) g t #[b0, b1, b2, b3, b4] := by
  have := ((((h.set_ 0 b0).set_ 1 b1).set_ 2 b2).set_ 3 b3).set_ 4 b4
  simpa using this
theorem below5c {B : Nat} {a w : World} (h : Below B a w) {g : Nat} (hg : B ≤ g) (b0 b1 b2 b3 b4 : Value) :
    Below B a (((((w.setCell ⟨g, 0, none⟩ b0).setCell ⟨g, 1, none⟩ b1).setCell ⟨g, 2, none⟩ b2).setCell ⟨g, 3, none⟩ b3).setCell ⟨g, 4, none⟩ b4) :=
  ((((h.setCell (p := ⟨g, 0, none⟩) hg b0).setCell (p := ⟨g, 1, none⟩) hg b1).setCell (p := ⟨g, 2, none⟩) hg b2).setCell (p := ⟨g, 3, none⟩) hg b3).setCell (p := ⟨g, 4, none⟩) hg b4
set_option maxRecDepth 100000 in
set_option maxHeartbeats 4000000 in
theorem head_any (m : MRec) (qn z : ByteArray) (qt qc : Int) (w : World) (hm : m.In w) (hf : ∀ r ∈ m.h, r.fits) (hlen : m.h.length ≤ 64) (hq : qn.size ≤ maxLen) (hz : z.size ≤ maxLen) :
    Calls Tryz.prog 39 #[m.val, .agg #[.string qn, .int .u16 qt, .int .u16 qc], .string z] w fun e w' => e = .returned (headV (m.h.find? (headB qn.data.toList z.data.toList))) ∧ Below w.heap.size w w' := by
  obtain ⟨W1, hW1⟩ : ∃ W1, (((w.alloc (.cells #[.int .u16 m.id, .int .u16 m.bi, .slice m.qA m.q.length m.qc, .slice m.sA m.s.length m.sc, .slice m.hA m.h.length m.hc, .slice m.eA m.e.length m.ec] 49)).alloc (.cells #[.string qn, .int .u16 qt, .int .u16 qc] 40)).alloc (.cells #[.string z] 9)).alloc (.cells #[.string ⟨#[]⟩, .int .u16 0, .int .u16 0, .int .u32 0, .string ⟨#[]⟩] 33) = W1 := ⟨_, rfl⟩
  have hz1 : W1.heap.size = w.heap.size + 4 := by rw [← hW1]; simp
  have hb1 : Below w.heap.size w W1 := by rw [← hW1]; exact ((((Below.refl _ _).alloc (Nat.le_refl _) _).alloc (by simp) _).alloc (by simp; omega) _).alloc (by simp; omega) _
  have m1 : Blk W1 w.heap.size 49 #[.int .u16 m.id, .int .u16 m.bi, .slice m.qA m.q.length m.qc, .slice m.sA m.s.length m.sc, .slice m.hA m.h.length m.hc, .slice m.eA m.e.length m.ec] := by rw [← hW1]; exact (((Blk.new w _ _).alloc _).alloc _).alloc _
  have q1 : Blk W1 (w.heap.size + 1) 40 #[.string qn, .int .u16 qt, .int .u16 qc] := by
    rw [← hW1]
    have := Blk.new (w.alloc (.cells #[.int .u16 m.id, .int .u16 m.bi, .slice m.qA m.q.length m.qc, .slice m.sA m.s.length m.sc, .slice m.hA m.h.length m.hc, .slice m.eA m.e.length m.ec] 49)) 40 #[.string qn, .int .u16 qt, .int .u16 qc]
    rw [World.size_alloc] at this
    exact (this.alloc _).alloc _
  have z1 : Blk W1 (w.heap.size + 1 + 1) 9 #[.string z] := by
    rw [← hW1]
    have := Blk.new ((w.alloc (.cells #[.int .u16 m.id, .int .u16 m.bi, .slice m.qA m.q.length m.qc, .slice m.sA m.s.length m.sc, .slice m.hA m.h.length m.hc, .slice m.eA m.e.length m.ec] 49)).alloc (.cells #[.string qn, .int .u16 qt, .int .u16 qc] 40)) 9 #[.string z]
    rw [World.size_alloc, World.size_alloc] at this
    exact this.alloc _
  have r1 : Blk W1 (w.heap.size + 1 + 1 + 1) 33 #[.string ⟨#[]⟩, .int .u16 0, .int .u16 0, .int .u32 0, .string ⟨#[]⟩] := by
    rw [← hW1]
    have := Blk.new (((w.alloc (.cells #[.int .u16 m.id, .int .u16 m.bi, .slice m.qA m.q.length m.qc, .slice m.sA m.s.length m.sc, .slice m.hA m.h.length m.hc, .slice m.eA m.e.length m.ec] 49)).alloc (.cells #[.string qn, .int .u16 qt, .int .u16 qc] 40)).alloc (.cells #[.string z] 9)) 33 #[.string ⟨#[]⟩, .int .u16 0, .int .u16 0, .int .u32 0, .string ⟨#[]⟩]
    rw [World.size_alloc, World.size_alloc, World.size_alloc] at this
    exact this
  have HI := Lib.hid (indexH_any m.h m.hA m.hc qn z qt qc (w.heap.size + 1 + 1) (w.heap.size + 1) W1 (hm.th.below hb1) ⟨z1, q1, hq, hz⟩ (by omega) hf)
  have HT := Lib.hid (And.intro (hm.th.below hb1) (And.intro hb1 (And.intro m1 r1)))
  have HLO := Lib.hid (fun h => RTab.low hm.th h)
  obtain ⟨P, hP⟩ : ∃ P, headB qn.data.toList z.data.toList = P := ⟨_, rfl⟩
  rw [hP] at HI ⊢
  have hcase := idxH_cases P m.h
  obtain ⟨i, hi⟩ : ∃ i, idxH P m.h = i := ⟨_, rfl⟩
  rw [hi] at HI hcase
  obtain ⟨o, ho⟩ : ∃ o, m.h.find? P = o := ⟨_, rfl⟩
  rw [ho] at hcase ⊢
  have HCS := Lib.hid hcase
  have a4 := m1.cell 4
  have hml := m1.lt
  dsimp only [MRec.val]
  clear hb1 m1 q1 z1 r1 hm hf hi ho hcase hz hq hP
  go_enter Tryz.func39, Tryz.ntmps39
  go_upto_region 1 with (fail)
  clear hW1
  go_wp2_with (fail)
  with_reducible refine HI.out.mono ?_
  rintro e w2 ⟨rfl, hb2⟩
  have hz2 := hb2.size
  have HB := Lib.hid (And.intro (HT.out.2.1.trans (hb2.mono HT.out.2.1.size)) (HT.out.2.2.2.below hb2 HT.out.2.2.2.lt))
  have f0 := HB.out.2.frozen 0; have f1 := HB.out.2.frozen 1; have f2 := HB.out.2.frozen 2; have f3 := HB.out.2.frozen 3; have f5 := HB.out.2.frozen 4
  have r0 := HB.out.2.cell 0; have r1 := HB.out.2.cell 1; have r2 := HB.out.2.cell 2; have r3 := HB.out.2.cell 3; have r4 := HB.out.2.cell 4
  have b4' := (HT.out.2.2.1.below hb2 HT.out.2.2.1.lt).cell 4
  rcases HCS.out with ⟨rfl, rfl⟩ | ⟨k, r, rfl, hr, rfl, hp⟩
  · clear hb2
    go_wp2_with (fail)
    have hB := blk5c HB.out.2 (.string ⟨#[]⟩) (.int .u16 0) (.int .u16 0) (.int .u32 0) (.string ⟨#[]⟩)
    have hb9 := below5c HB.out.1 (g := w.heap.size + 1 + 1 + 1) (by omega) (.string ⟨#[]⟩) (.int .u16 0) (.int .u16 0) (.int .u32 0) (.string ⟨#[]⟩)
    obtain ⟨W9, hW9⟩ : ∃ W9, ((((w2.setCell ⟨w.heap.size + 1 + 1 + 1, 0, none⟩ (.string ⟨#[]⟩)).setCell ⟨w.heap.size + 1 + 1 + 1, 1, none⟩ (.int .u16 0)).setCell ⟨w.heap.size + 1 + 1 + 1, 2, none⟩ (.int .u16 0)).setCell ⟨w.heap.size + 1 + 1 + 1, 3, none⟩ (.int .u32 0)).setCell ⟨w.heap.size + 1 + 1 + 1, 4, none⟩ (.string ⟨#[]⟩) = W9 := ⟨_, rfl⟩
    rw [hW9] at hB hb9 ⊢
    clear r0 r1 r2 r3 r4 f0 f1 f2 f3 f5
    have r0 := hB.cell 0; have r1 := hB.cell 1; have r2 := hB.cell 2; have r3 := hB.cell 3; have r4 := hB.cell 4
    exact bodyPost_ret (v := .tuple #[zeroRR, .int .i64 3]) (by simp [results, Tryz.results39, go_sem, r0, r1, r2, r3, r4, zeroRR]) rfl ⟨rfl, hb9⟩
  · have hTr := HT.out.1.below hb2
    obtain ⟨b, off, hA, hbs, c0, c1, c2, c3, c4⟩ := hTr.cells hr
    have hk : k < m.h.length := (List.getElem?_eq_some_iff.1 hr).1
    have hkI : (k : Int) < (m.h.length : Int) := by omega
    have hk0 : ¬ (k : Int) < 0 := by omega
    have hne : b ≠ w.heap.size + 1 + 1 + 1 := by
      have := HLO.out (by omega) _ hA
      dsimp only at this
      omega
    rw [hA] at b4' ⊢
    clear hb2 hTr hr
    go_wp2_with (fail)
    have hB := blk5c HB.out.2 (.string r.n) (.int .u16 r.t) (.int .u16 r.c) (.int .u32 r.l) (.string r.d)
    have hb9 := below5c HB.out.1 (g := w.heap.size + 1 + 1 + 1) (by omega) (.string r.n) (.int .u16 r.t) (.int .u16 r.c) (.int .u32 r.l) (.string r.d)
    obtain ⟨W9, hW9⟩ : ∃ W9, ((((w2.setCell ⟨w.heap.size + 1 + 1 + 1, 0, none⟩ (.string r.n)).setCell ⟨w.heap.size + 1 + 1 + 1, 1, none⟩ (.int .u16 r.t)).setCell ⟨w.heap.size + 1 + 1 + 1, 2, none⟩ (.int .u16 r.c)).setCell ⟨w.heap.size + 1 + 1 + 1, 3, none⟩ (.int .u32 r.l)).setCell ⟨w.heap.size + 1 + 1 + 1, 4, none⟩ (.string r.d) = W9 := ⟨_, rfl⟩
    rw [hW9] at hB hb9 ⊢
    clear r0 r1 r2 r3 r4 f0 f1 f2 f3 f5
    have r0 := hB.cell 0; have r1 := hB.cell 1; have r2 := hB.cell 2; have r3 := hB.cell 3; have r4 := hB.cell 4
    exact bodyPost_ret (v := .tuple #[r.val, .int .i64 0]) (by simp [results, Tryz.results39, go_sem, r0, r1, r2, r3, r4, RRec.val]) rfl ⟨rfl, hb9⟩
end Go.Proofs.YthnngndnpigjbaaGreat

namespace Go.Proofs.YthnngndnpigjbaaGreat
open Go.RowKit Go.Lib

/-- The response code. -/
def codeM (m : MRec) : Int := wrap64 (bits .and .u16 m.bi 15)
set_option maxRecDepth 100000 in
theorem code_any (m : MRec) (w : World) : Calls Tryz.prog 38 #[m.val] w fun e w' => e = .returned (.int .i64 (codeM m)) ∧ Below w.heap.size w w' := by
  dsimp only [MRec.val]
  go_enter Tryz.func38, Tryz.ntmps38
  go_wp2_with (fail)
  go_ret
  exact ⟨rfl, (Below.refl _ _).alloc (Nat.le_refl _) _⟩
def MRec.boxed (m : MRec) (qn : ByteArray) (qt qc : Int) (w : World) : World := (w.alloc (.cells #[.int .u16 m.id, .int .u16 m.bi, .slice m.qA m.q.length m.qc, .slice m.sA m.s.length m.sc, .slice m.hA m.h.length m.hc, .slice m.eA m.e.length m.ec] 49)).alloc (.cells #[.string qn, .int .u16 qt, .int .u16 qc] 40)
theorem boxed_all (m : MRec) (qn : ByteArray) (qt qc : Int) (w : World) : Below w.heap.size w (m.boxed qn qt qc w) ∧ Blk (m.boxed qn qt qc w) w.heap.size 49 #[.int .u16 m.id, .int .u16 m.bi, .slice m.qA m.q.length m.qc, .slice m.sA m.s.length m.sc, .slice m.hA m.h.length m.hc, .slice m.eA m.e.length m.ec] ∧ Blk (m.boxed qn qt qc w) (w.heap.size + 1) 40 #[.string qn, .int .u16 qt, .int .u16 qc] := by
  unfold MRec.boxed
  refine ⟨((Below.refl _ _).alloc (Nat.le_refl _) _).alloc (by simp) _, (Blk.new w _ _).alloc _, ?_⟩
  have := Blk.new (w.alloc (.cells #[.int .u16 m.id, .int .u16 m.bi, .slice m.qA m.q.length m.qc, .slice m.sA m.s.length m.sc, .slice m.hA m.h.length m.hc, .slice m.eA m.e.length m.ec] 49)) 40 #[.string qn, .int .u16 qt, .int .u16 qc]
  rw [World.size_alloc] at this
  exact this
/-- A question about a message, and a zone: what all three are asked with. -/
structure AskOk (m : MRec) (qn z : ByteArray) (w : World) : Prop where
  i : m.In w
  h : ∀ r ∈ m.h, r.fits
  hl : m.h.length ≤ 64
  q : qn.size ≤ maxLen
  z : z.size ≤ maxLen
theorem AskOk.below {m : MRec} {qn z : ByteArray} {w w' : World} (h : AskOk m qn z w) (hb : Below w.heap.size w w') : AskOk m qn z w' := ⟨h.i.below hb, h.h, h.hl, h.q, h.z⟩
def soaOf (m : MRec) (qn z : ByteArray) : Option RRec := m.h.find? (headB qn.data.toList z.data.toList)
set_option maxRecDepth 100000 in
set_option maxHeartbeats 4000000 in
theorem absName_any (m : MRec) (qn z : ByteArray) (qt qc : Int) (w : World) (hA : AskOk m qn z w) :
    Calls Tryz.prog 19 #[m.val, .agg #[.string qn, .int .u16 qt, .int .u16 qc], .string z] w fun e w' => e = .returned (.bool (decide (codeM m = 3) && (soaOf m qn z).isSome)) ∧ Below w.heap.size w w' := by
  have HC := Lib.hid (fun W => code_any m W)
  have HH := Lib.hid (fun W (hW : Below w.heap.size w W) => head_any m qn z qt qc W (hA.below hW).i hA.h hA.hl hA.q hA.z)
  have HX := Lib.hid (boxed_all m qn qt qc w)
  unfold soaOf
  obtain ⟨o, ho⟩ : ∃ o, m.h.find? (headB qn.data.toList z.data.toList) = o := ⟨_, rfl⟩
  rw [ho] at HH ⊢
  obtain ⟨k, hk⟩ : ∃ k, codeM m = k := ⟨_, rfl⟩
  rw [hk] at HC ⊢
  clear hk ho hA
  unfold MRec.boxed at HX
  dsimp only [MRec.val] at *
  go_enter Tryz.func19, Tryz.ntmps19
  go_wp2_with (fail)
  with_reducible refine (HC.out _).mono ?_
  rintro e w2 ⟨rfl, hb⟩
  have HB := Lib.hid (HX.out.1.trans (hb.mono HX.out.1.size))
  have m2 := HX.out.2.1.below hb HX.out.2.1.lt
  have q2 := HX.out.2.2.below hb HX.out.2.2.lt
  have a0 := m2.cell 0; have a1 := m2.cell 1; have a2 := m2.cell 2; have a3 := m2.cell 3; have a4 := m2.cell 4; have a5 := m2.cell 5
  have b0 := q2.cell 0; have b1 := q2.cell 1; have b2 := q2.cell 2
  clear hb m2 q2
  by_cases h3 : k = 3
  · subst h3
    go_wp2_with (fail)
    with_reducible refine (HH.out _ HB.out).mono ?_
    rintro e w3 ⟨rfl, hb⟩
    have HB3 := Lib.hid (HB.out.trans (hb.mono HB.out.size))
    clear hb a0 a1 a2 a3 a4 a5 b0 b1 b2
    cases o with
    | none =>
      dsimp only [headV, zeroRR]
      go_wp2_with (fail)
      go_ret
      exact ⟨rfl, HB3.out.alloc HB3.out.size _⟩
    | some r =>
      dsimp only [headV, RRec.val]
      go_wp2_with (fail)
      go_ret
      exact ⟨rfl, HB3.out.alloc HB3.out.size _⟩
  · have e3 : (k == 3) = false := by simp [h3]
    have H3 := Lib.hid h3
    clear h3
    go_wp2_with (fail)
    go_ret
    exact ⟨by rw [decide_eq_false H3.out]; rfl, HB.out⟩
/-- How long. -/
def ttlV (o : Option RRec) : Value := match o with
  | none => .tuple #[.int .u32 0, .int .i64 3]
  | some r => if okD 6 r.d.data.toList = true then .tuple #[.int .u32 (min (min r.l (leastN r.d.data.toList).1) 10800), .int .i64 0] else .tuple #[.int .u32 0, .int .i64 3]
theorem ttl_no {r : RRec} (h : okD 6 r.d.data.toList = false) : ttlV (some r) = .tuple #[.int .u32 0, .int .i64 3] := by unfold ttlV; dsimp only; rw [h]; rfl
theorem ttl_yes {r : RRec} (h : okD 6 r.d.data.toList = true) : ttlV (some r) = .tuple #[.int .u32 (min (min r.l (leastN r.d.data.toList).1) 10800), .int .i64 0] := by unfold ttlV; dsimp only; rw [if_pos h]
set_option maxRecDepth 100000 in
set_option maxHeartbeats 4000000 in
theorem absTTL_any (m : MRec) (qn z : ByteArray) (qt qc : Int) (w : World) (hA : AskOk m qn z w) :
    Calls Tryz.prog 40 #[m.val, .agg #[.string qn, .int .u16 qt, .int .u16 qc], .string z] w fun e w' => e = .returned (ttlV (soaOf m qn z)) ∧ Below w.heap.size w w' := by
  have HH := Lib.hid (fun W (hW : Below w.heap.size w W) => head_any m qn z qt qc W (hA.below hW).i hA.h hA.hl hA.q hA.z)
  have HX := Lib.hid (boxed_all m qn qt qc w)
  unfold soaOf
  obtain ⟨o, ho⟩ : ∃ o, m.h.find? (headB qn.data.toList z.data.toList) = o := ⟨_, rfl⟩
  have HO := Lib.hid (show ∀ r, o = some r → r.fits from fun r hr => hA.h r (List.mem_of_find?_eq_some (ho.trans hr)))
  rw [ho] at HH ⊢
  clear ho hA
  unfold MRec.boxed at HX
  dsimp only [MRec.val] at *
  go_enter Tryz.func40, Tryz.ntmps40
  go_wp2_with (fail)
  with_reducible refine (HH.out _ HX.out.1).mono ?_
  rintro e w3 ⟨rfl, hb⟩
  have HB3 := Lib.hid (HX.out.1.trans (hb.mono HX.out.1.size))
  clear hb
  cases o with
  | none =>
    dsimp only [headV, zeroRR]
    go_wp2_with (fail)
    go_ret2
    exact ⟨rfl, HB3.out.alloc HB3.out.size _⟩
  | some r =>
    have HL := Lib.hid (fun W => least_any r.d (HO.out r rfl).2 W)
    dsimp only [headV, RRec.val]
    have HB4 := Lib.hid (HB3.out.alloc HB3.out.size (.cells #[.string r.n, .int .u16 r.t, .int .u16 r.c, .int .u32 r.l, .string r.d] 33))
    have HR4 := Lib.hid (Blk.new w3 33 #[.string r.n, .int .u16 r.t, .int .u16 r.c, .int .u32 r.l, .string r.d])
    cases hok : okD 6 r.d.data.toList with
    | false =>
      have hl2 : (leastN r.d.data.toList) = (0, 2) := by unfold leastN; rw [hok]; rfl
      rw [hl2] at HL
      have HOK := Lib.hid hok
      clear hok hl2
      go_wp2_with (fail)
      with_reducible refine (HL.out _).mono ?_
      rintro e w5 ⟨rfl, hb5⟩
      have HB5 := Lib.hid (HB4.out.trans (hb5.mono HB4.out.size))
      clear hb5
      go_wp2_with (fail)
      go_ret2
      exact ⟨by rw [ttl_no HOK.out]; rfl, HB5.out⟩
    | true =>
      obtain ⟨lv, hlv⟩ : ∃ lv, (leastN r.d.data.toList).1 = lv := ⟨_, rfl⟩
      have hl2 : (leastN r.d.data.toList).2 = 0 := by unfold leastN; rw [hok]; rfl
      rw [hlv, hl2] at HL
      have HOK := Lib.hid (And.intro hok hlv)
      clear hok hl2 hlv
      go_wp2_with (fail)
      with_reducible refine (HL.out _).mono ?_
      rintro e w5 ⟨rfl, hb5⟩
      have HB5 := Lib.hid (HB4.out.trans (hb5.mono HB4.out.size))
      have x3 := (HR4.out.below hb5 HR4.out.lt).cell 3
      clear hb5
      rcases Int.lt_or_le lv r.l with h1 | h1
      · rcases Int.lt_or_le 10800 lv with h2 | h2
        · have HM := Lib.hid (show min (min r.l lv) 10800 = 10800 by omega)
          go_wp2_with (fail)
          all_goals first
            | (go_ret2; exact ⟨by rw [ttl_yes HOK.out.1, HOK.out.2, HM.out]; rfl, HB5.out⟩)
            | (go_ret2; exact ⟨by rw [ttl_yes HOK.out.1, HOK.out.2]; rfl, HB5.out⟩)
            | (exfalso; omega)
        · have HM := Lib.hid (show min (min r.l lv) 10800 = lv by omega)
          go_wp2_with (fail)
          all_goals first
            | (go_ret2; exact ⟨by rw [ttl_yes HOK.out.1, HOK.out.2, HM.out]; rfl, HB5.out⟩)
            | (go_ret2; exact ⟨by rw [ttl_yes HOK.out.1, HOK.out.2]; rfl, HB5.out⟩)
            | (exfalso; omega)
      · rcases Int.lt_or_le 10800 r.l with h2 | h2
        · have HM := Lib.hid (show min (min r.l lv) 10800 = 10800 by omega)
          go_wp2_with (fail)
          all_goals first
            | (go_ret2; exact ⟨by rw [ttl_yes HOK.out.1, HOK.out.2, HM.out]; rfl, HB5.out⟩)
            | (go_ret2; exact ⟨by rw [ttl_yes HOK.out.1, HOK.out.2]; rfl, HB5.out⟩)
            | (exfalso; omega)
        · have HM := Lib.hid (show min (min r.l lv) 10800 = r.l by omega)
          go_wp2_with (fail)
          all_goals first
            | (go_ret2; exact ⟨by rw [ttl_yes HOK.out.1, HOK.out.2, HM.out]; rfl, HB5.out⟩)
            | (go_ret2; exact ⟨by rw [ttl_yes HOK.out.1, HOK.out.2]; rfl, HB5.out⟩)
            | (exfalso; omega)
end Go.Proofs.YthnngndnpigjbaaGreat

namespace Go.Proofs.YthnngndnpigjbaaGreat
open Go.RowKit Go.Lib

/-- Is it a record that answers? -/
def typeB (q : Bs) (t : Int) (r : RRec) : Bool := (decide (r.t = t) || decide (r.t = 5)) && (sameB r.nb q && rightB r)
set_option maxRecDepth 100000 in
set_option maxHeartbeats 4000000 in
theorem type1_any (r : RRec) (qn : ByteArray) (qt qc : Int) (bq : Nat) (w : World) (hn : r.n.size ≤ maxLen) (hd : r.d.size ≤ 140737488355328) (hqn : qn.size ≤ maxLen)
    (hq : Blk w bq 40 #[.string qn, .int .u16 qt, .int .u16 qc]) :
    Calls Tryz.prog 42 #[r.val, .pointer (some ⟨bq, 0, none⟩)] w fun e w' => e = .returned (.bool (typeB qn.data.toList qt r)) ∧ Below w.heap.size w w' := by
  have HR := Lib.hid (fun W => absRight_any r hn hd W)
  have HA := Lib.hid (fun W => Same_any r.n qn (by unfold maxLen at hn; omega) (by unfold maxLen at hqn; omega) W)
  obtain ⟨b1, hb1⟩ : ∃ b, sameB r.n.data.toList qn.data.toList = b := ⟨_, rfl⟩
  obtain ⟨b3, hb3⟩ : ∃ b, rightB r = b := ⟨_, rfl⟩
  rw [hb1] at HA
  rw [hb3] at HR
  have HV : RowKit.Hid (typeB qn.data.toList qt r = ((decide (r.t = qt) || decide (r.t = 5)) && (b1 && b3))) := Lib.hid (by unfold typeB; rw [show sameB r.nb qn.data.toList = b1 from hb1, hb3])
  clear hb1 hb3 hn hd hqn
  obtain ⟨rn, rt, rc, rl, rd⟩ := r
  dsimp only [RRec.val] at *
  have HW := Lib.hid (show Below w.heap.size w (w.alloc (.cells #[.string rn, .int .u16 rt, .int .u16 rc, .int .u32 rl, .string rd] 33)) from (Below.refl _ _).alloc (Nat.le_refl _) _)
  have HN := Lib.hid (Blk.new w 33 #[.string rn, .int .u16 rt, .int .u16 rc, .int .u32 rl, .string rd])
  have q0 := hq.cell 0
  have q1 := hq.cell 1
  have hql := hq.lt
  clear hq
  obtain ⟨y1, hy1⟩ : ∃ y, (rt == qt) = y := ⟨_, rfl⟩
  obtain ⟨y2, hy2⟩ : ∃ y, (rt == 5) = y := ⟨_, rfl⟩
  have HY := Lib.hid (show (decide (rt = qt) || decide (rt = 5)) = (y1 || y2) from by rw [← hy1, ← hy2]; by_cases h1 : rt = qt <;> by_cases h2 : rt = 5 <;> simp [h1, h2])
  have fin : RowKit.Hid (typeB qn.data.toList qt ⟨rn, rt, rc, rl, rd⟩ = ((y1 || y2) && (b1 && b3))) := Lib.hid (by rw [HV.out, HY.out])
  clear HV HY
  cases hyy : (y1 || y2) with
  | false =>
    have hy1f : y1 = false := by cases y1 <;> simp_all
    have hy2f : y2 = false := by cases y2 <;> simp_all
    subst hy1f hy2f
    clear hyy
    go_enter Tryz.func42, Tryz.ntmps42
    go_wp2_with (fail)
    go_ret
    exact ⟨by rw [fin.out]; rfl, HW.out⟩
  | true =>
    have FIN2 : RowKit.Hid (typeB qn.data.toList qt ⟨rn, rt, rc, rl, rd⟩ = (b1 && b3)) := Lib.hid (by rw [fin.out, hyy]; rfl)
    clear fin
    go_enter Tryz.func42, Tryz.ntmps42
    cases y1 with
    | true =>
      clear hyy
      go_wp2_with (fail)
      with_reducible refine (HA.out _).mono ?_
      rintro e w2 ⟨rfl, hb2⟩
      have B2 := Lib.hid (HW.out.trans (hb2.mono HW.out.size))
      cases b1 with
      | false =>
        clear hb2
        go_wp2_with (fail)
        go_ret
        exact ⟨by rw [FIN2.out]; rfl, B2.out⟩
      | true =>
        have N2 := HN.out.below hb2 HN.out.lt
        have x0 := N2.cell 0; have x1 := N2.cell 1; have x2 := N2.cell 2; have x3 := N2.cell 3; have x4 := N2.cell 4
        clear hb2 N2
        go_wp2_with (fail)
        with_reducible refine (HR.out _).mono ?_
        rintro e w4 ⟨rfl, hb4⟩
        have B4 := Lib.hid (B2.out.trans (hb4.mono B2.out.size))
        clear hb4
        go_wp2_with (fail)
        go_ret
        exact ⟨by rw [FIN2.out]; rfl, B4.out⟩
    | false =>
      have hy2t : y2 = true := by simpa using hyy
      subst hy2t
      clear hyy
      go_wp2_with (fail)
      with_reducible refine (HA.out _).mono ?_
      rintro e w2 ⟨rfl, hb2⟩
      have B2 := Lib.hid (HW.out.trans (hb2.mono HW.out.size))
      cases b1 with
      | false =>
        clear hb2
        go_wp2_with (fail)
        go_ret
        exact ⟨by rw [FIN2.out]; rfl, B2.out⟩
      | true =>
        have N2 := HN.out.below hb2 HN.out.lt
        have x0 := N2.cell 0; have x1 := N2.cell 1; have x2 := N2.cell 2; have x3 := N2.cell 3; have x4 := N2.cell 4
        clear hb2 N2
        go_wp2_with (fail)
        with_reducible refine (HR.out _).mono ?_
        rintro e w4 ⟨rfl, hb4⟩
        have B4 := Lib.hid (B2.out.trans (hb4.mono B2.out.size))
        clear hb4
        go_wp2_with (fail)
        go_ret
        exact ⟨by rw [FIN2.out]; rfl, B4.out⟩
structure ClosT (w : World) (qn : ByteArray) (qt qc : Int) (bq : Nat) : Prop where
  qb : Blk w bq 40 #[.string qn, .int .u16 qt, .int .u16 qc]
  ql : qn.size ≤ maxLen
set_option maxHeartbeats 1000000 in
set_option maxRecDepth 100000 in
theorem indexT_any (xs : List RRec) (A : Option Addr) (c : Nat) (qn : ByteArray) (qt qc : Int) (bq : Nat) (w : World)
    (hT : RTab w A xs) (hC : ClosT w qn qt qc bq) (hbig : xs.length ≤ 9223372036854775807) (hf : ∀ r ∈ xs, r.fits) :
    Calls Tryz.prog 61 #[.slice A xs.length c, .func (.func 42) #[] #[.pointer (some ⟨bq, 0, none⟩)]] w fun e w' => e = .returned (.int .i64 (idxH (typeB qn.data.toList qt) xs)) ∧ Below w.heap.size w w' := by
  have HT := Lib.hid hT
  have HK := Lib.hid (And.intro hC hf)
  obtain ⟨P, hP⟩ : ∃ P, typeB qn.data.toList qt = P := ⟨_, rfl⟩
  rw [hP]
  have HP := Lib.hid hP
  clear hT hC hf hP
  go_enter Tryz.func61, Tryz.ntmps61
  go_wp2
  go_loopg [5, 8] xs.length (fun gg _ s8 wr => ∃ kk : Nat, kk ≤ xs.length ∧ xs.length - kk ≤ gg ∧ s8 = .int .i64 kk ∧ Aside (Below w.heap.size w wr) ∧ Aside (∀ j f, j < kk → xs[j]? = some f → P f = false))
  case atStart => exact ⟨0, Nat.zero_le _, by omega, rfl, Below.refl _ w, fun j _ hj => absurd hj (Nat.not_lt_zero _)⟩
  case round =>
    obtain ⟨kk, hkk, hg, rfl, BW, AA⟩ := hrel
    by_cases hlt : kk < xs.length
    · have hltz : (kk : Int) < (xs.length : Int) := by omega
      have HTr := HT.out.below BW.out
      obtain ⟨e, he⟩ : ∃ e, xs[kk]? = some e := ⟨_, List.getElem?_eq_getElem hlt⟩
      obtain ⟨b, off, rfl, hbs, c0, c1, c2, c3, c4⟩ := HTr.cells he
      have hfe := HK.out.2 e (List.mem_of_getElem? he)
      have hcall := type1_any e qn qt qc bq wr hfe.1 hfe.2 HK.out.1.ql (HK.out.1.qb.below BW.out HK.out.1.qb.lt)
      rw [HP.out] at hcall
      rw [show e.val = .agg #[.string e.n, .int .u16 e.t, .int .u16 e.c, .int .u32 e.l, .string e.d] from rfl] at hcall
      have HE := Lib.hid he
      have hsize := BW.out.size
      clear HTr he hfe
      cases hq : P e with
      | true =>
        have hq2 : P e = true := hq
        rw [hq2] at hcall
        have HQ := Lib.hid hq
        clear hq hq2
        go_wp2_with (fail)
        with_reducible refine hcall.mono ?_
        rintro e w' ⟨rfl, hb'⟩
        go_wp2_with (fail)
        go_ret
        refine ⟨?_, BW.out.trans (hb'.mono hsize)⟩
        rw [idxH_hit HE.out HQ.out AA.out]; rfl
      | false =>
        have hq2 : P e = false := hq
        rw [hq2] at hcall
        have HQ := Lib.hid hq
        clear hq hq2
        go_wp2_with (fail)
        with_reducible refine hcall.mono ?_
        rintro e w' ⟨rfl, hb'⟩
        go_wp2_with (fail)
        go_roundg (xs.length - (kk + 1))
        case measure => omega
        case rel =>
          refine ⟨kk + 1, by omega, by omega, by go_num, BW.out.trans (hb'.mono hsize), (show Aside _ from fun j f hj hf => ?_)⟩
          by_cases h : j = kk
          · subst h
            rw [HE.out] at hf
            cases hf
            exact HQ.out
          · exact AA.out j f (by omega) hf
    · obtain rfl : kk = xs.length := by omega
      clear hlt
      go_wp2
      go_ret
      refine ⟨?_, BW.out⟩
      rw [idxH_miss AA.out]; rfl

set_option maxRecDepth 100000 in
theorem containsT_any (xs : List RRec) (A : Option Addr) (c : Nat) (qn : ByteArray) (qt qc : Int) (bq : Nat) (w : World)
    (hT : RTab w A xs) (hC : ClosT w qn qt qc bq) (hbig : xs.length ≤ 1000000) (hf : ∀ r ∈ xs, r.fits) :
    Calls Tryz.prog 41 #[.slice A xs.length c, .func (.func 42) #[] #[.pointer (some ⟨bq, 0, none⟩)]] w fun e w' => e = .returned (.bool (xs.find? (typeB qn.data.toList qt)).isSome) ∧ Below w.heap.size w w' := by
  have HI := Lib.hid (indexT_any xs A c qn qt qc bq w hT hC (by omega) hf)
  obtain ⟨i, hi⟩ : ∃ i, idxH (typeB qn.data.toList qt) xs = i := ⟨_, rfl⟩
  have hany : (xs.find? (typeB qn.data.toList qt)).isSome = decide (0 ≤ i) ∧ -1 ≤ i ∧ i ≤ 1000000 := by
    rcases idxH_cases (typeB qn.data.toList qt) xs with ⟨h1, h2⟩ | ⟨j, e, h1, h2, h3, h4⟩
    · have : i = -1 := by omega
      subst this
      rw [h2]; exact ⟨rfl, by omega, by omega⟩
    · have : 0 ≤ i := by omega
      have := (List.getElem?_eq_some_iff.1 h2).1
      rw [decide_eq_true (show 0 ≤ i by omega), h3]
      exact ⟨rfl, by omega, by omega⟩
  obtain ⟨hany, hib1, hib2⟩ := hany
  rw [hi] at HI
  rw [hany]
  clear hany hi hT hC
  go_enter Tryz.func41, Tryz.ntmps41
  go_wp2_with (fail)
  with_reducible refine HI.out.mono ?_
  rintro e w1 ⟨rfl, hb⟩
  go_wp2_with (fail)
  go_ret
  exact ⟨rfl, hb⟩
set_option maxRecDepth 100000 in
set_option maxHeartbeats 4000000 in
theorem absType_any (m : MRec) (qn z : ByteArray) (qt qc : Int) (w : World) (hA : AskOk m qn z w) (hs : ∀ r ∈ m.s, r.fits) (hsl : m.s.length ≤ 64) :
    Calls Tryz.prog 21 #[m.val, .agg #[.string qn, .int .u16 qt, .int .u16 qc], .string z] w fun e w' => e = .returned (.bool (decide (codeM m = 0) && ((soaOf m qn z).isSome && !(m.s.find? (typeB qn.data.toList qt)).isSome))) ∧ Below w.heap.size w w' := by
  have HC := Lib.hid (fun W => code_any m W)
  have HH := Lib.hid (fun W (hW : Below w.heap.size w W) => head_any m qn z qt qc W (hA.below hW).i hA.h hA.hl hA.q hA.z)
  have HX := Lib.hid (boxed_all m qn qt qc w)
  have HT := Lib.hid (fun W (hW : Below w.heap.size w W) (hB : Blk W (w.heap.size + 1) 40 #[.string qn, .int .u16 qt, .int .u16 qc]) => containsT_any m.s m.sA m.sc qn qt qc (w.heap.size + 1) W (hA.below hW).i.ts ⟨hB, hA.q⟩ (by omega) hs)
  unfold soaOf
  obtain ⟨o, ho⟩ : ∃ o, m.h.find? (headB qn.data.toList z.data.toList) = o := ⟨_, rfl⟩
  rw [ho] at HH ⊢
  obtain ⟨k, hk⟩ : ∃ k, codeM m = k := ⟨_, rfl⟩
  rw [hk] at HC ⊢
  obtain ⟨y, hy⟩ : ∃ y, (m.s.find? (typeB qn.data.toList qt)).isSome = y := ⟨_, rfl⟩
  rw [hy] at HT ⊢
  clear hk ho hA hy
  unfold MRec.boxed at HX
  dsimp only [MRec.val] at *
  go_enter Tryz.func21, Tryz.ntmps21
  go_wp2_with (fail)
  with_reducible refine (HC.out _).mono ?_
  rintro e w2 ⟨rfl, hb⟩
  have HB := Lib.hid (HX.out.1.trans (hb.mono HX.out.1.size))
  have m2 := HX.out.2.1.below hb HX.out.2.1.lt
  have q2 := HX.out.2.2.below hb HX.out.2.2.lt
  have a0 := m2.cell 0; have a1 := m2.cell 1; have a2 := m2.cell 2; have a3 := m2.cell 3; have a4 := m2.cell 4; have a5 := m2.cell 5
  have b0 := q2.cell 0; have b1 := q2.cell 1; have b2 := q2.cell 2
  have HMQ := Lib.hid (And.intro m2 q2)
  clear hb m2 q2
  by_cases h3 : k = 0
  · subst h3
    go_wp2_with (fail)
    with_reducible refine (HH.out _ HB.out).mono ?_
    rintro e w3 ⟨rfl, hb⟩
    have HB3 := Lib.hid (HB.out.trans (hb.mono HB.out.size))
    have m3 := HMQ.out.1.below hb HMQ.out.1.lt
    have q3 := HMQ.out.2.below hb HMQ.out.2.lt
    have s3 := m3.cell 3
    have ml := m3.lt
    have HQ3 := Lib.hid q3
    clear hb a0 a1 a2 a3 a4 a5 b0 b1 b2 m3 q3
    cases o with
    | none =>
      dsimp only [headV, zeroRR]
      go_wp2_with (fail)
      go_ret
      exact ⟨rfl, HB3.out.alloc HB3.out.size _⟩
    | some r =>
      dsimp only [headV, RRec.val]
      have HB4 := Lib.hid (HB3.out.alloc HB3.out.size (.cells #[.string r.n, .int .u16 r.t, .int .u16 r.c, .int .u32 r.l, .string r.d] 33))
      have HT4 := Lib.hid (HT.out _ HB4.out (HQ3.out.alloc _))
      go_wp2_with (fail)
      with_reducible refine HT4.out.mono ?_
      rintro e w5 ⟨rfl, hb5⟩
      have HB5 := Lib.hid (HB4.out.trans (hb5.mono HB4.out.size))
      clear hb5
      go_wp2_with (fail)
      go_ret
      exact ⟨rfl, HB5.out⟩
  · have e3 : (k == 0) = false := by simp [h3]
    have H3 := Lib.hid h3
    clear h3
    go_wp2_with (fail)
    go_ret
    exact ⟨by rw [decide_eq_false H3.out]; rfl, HB.out⟩
end Go.Proofs.YthnngndnpigjbaaGreat
