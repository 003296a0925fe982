/- The walk of package label's Within. Plain laws of names: what lies within what. No program in sight. Conditions: none. -/
import Derived.Test.YthnngndnpigjbaaGreatCount
import Derived.Test.YthnngndnpigjbaaGreatSame
namespace Go.Proofs.YthnngndnpigjbaaGreat
open Go.RowKit Go.Shelf
attribute [local go_sem] Oper.semAt_some

/-- Does what is left from this place on begin where a label does? -/
def begL (more : Nat) (L : List Nat) : Bool := decide (more = 0) || decide (more ∈ L)
/-- Are both names, and lies the first within the second? -/
def withinB (a z : Bs) : Bool := isName a && (isName z && (decide (z.length ≤ a.length) && (begL (a.length - z.length) (endsL a) && (foldB (a.drop (a.length - z.length)) == foldB z))))
theorem pos_mono (ls : List Bs) : ∀ (i j : Nat), i < j → j ≤ ls.length → pos ls i < pos ls j
  | i, j + 1, h, hj => by
    rw [pos_succ (show j < ls.length by omega)]
    rcases Nat.lt_or_ge i j with h1 | h1
    · have := pos_mono ls i j h1 (by omega); omega
    · have : i = j := by omega
      subst this; omega
theorem ends_sorted (l : Bs) : (endsL l).Pairwise (· < ·) := by
  unfold endsL
  rw [List.pairwise_map]
  refine List.Pairwise.imp_of_mem (fun {i j} _ hj h => ?_) List.pairwise_lt_range
  have := List.mem_range.1 hj
  exact pos_mono _ _ _ (by omega) (by omega)
theorem beg_stop {more : Nat} {l : Bs} {pre : List Nat} {x : Nat} (hp : pre ++ [x] <+: endsL l) (h1 : ∀ y ∈ pre, y < more) (h2 : more ≤ x) : (decide (more = 0) || (x : Int) == (more : Int)) = begL more (endsL l) := by
  obtain ⟨t, ht⟩ := hp
  have hs := ends_sorted l
  rw [← ht] at hs ⊢
  have h3 : ∀ y ∈ t, x < y := fun y hy => (List.pairwise_append.1 hs).2.2 x (by simp) y hy
  unfold begL
  congr 1
  rw [Bool.eq_iff_iff]
  simp only [beq_iff_eq, decide_eq_true_eq, List.mem_append, List.mem_singleton]
  constructor
  · intro h; left; right; omega
  · rintro ((h | h) | h)
    · have := h1 _ h; omega
    · omega
    · have := h3 _ h; omega
theorem beg_done {more : Nat} {L : List Nat} (h : ∀ y ∈ L, y < more) : decide (more = 0) = begL more L := by
  unfold begL
  have : ¬ more ∈ L := fun hm => by have := h _ hm; omega
  rw [decide_eq_false this, Bool.or_false]

set_option maxRecDepth 100000 in
set_option maxHeartbeats 300000 in
theorem Within_big (a z : ByteArray) (ha : a.size ≤ maxLen) (hz : z.size ≤ maxLen) (hna : isName a.data.toList = true) (hnz : isName z.data.toList = true) (hle : z.size ≤ a.size) (w : World) :
    Calls Tryz.prog 28 #[.string a, .string z] w fun e w' => e = .returned (.bool (begL (a.size - z.size) (endsL a.data.toList) && (foldB (a.data.toList.drop (a.size - z.size)) == foldB z.data.toList))) ∧ Below w.heap.size w w' := by
  obtain ⟨n, hn⟩ : ∃ n : Nat, 8 ≤ n := ⟨8, by omega⟩
  refine (callsIn_wide (n := n)).1 ?_
  have h1n : 1 ≤ n := by omega
  have hca : chkN a.data.toList = 0 := by unfold chkN; rw [if_pos hna]
  have hcz : chkN z.data.toList = 0 := by unfold chkN; rw [if_pos hnz]
  obtain ⟨more, hmore⟩ : ∃ more, more = a.size - z.size := ⟨_, rfl⟩
  have hmI : (a.size : Int) - (z.size : Int) = (more : Int) := by omega
  have hgt : ¬ (a.size : Int) < (z.size : Int) := by omega
  rw [← hmore]
  have haI : (a.size : Int) ≤ 9223372036854775807 := by unfold maxLen at ha; omega
  have HA := Lib.hid (And.intro ha (And.intro hz (And.intro hna (And.intro hnz (And.intro hle hmore)))))
  clear hna hnz hle hmore hn
  refine callsIn_of_wp_marks Tryz.func28 rfl trivial ?_ rfl
  simp only [Tryz.ntmps28, List.size_toArray, List.length_cons, List.length_nil, Nat.reduceAdd, Nat.reduceSub, Array.replicate_succ, Array.replicate_zero, List.push_toArray, List.append_toArray, List.nil_append, List.cons_append]
  gi_wp2_with (first
    | (refine ⟨trivial, ?_⟩; gi_at_call 29; refine (callsIn_wide.2 (Check_any _ (by assumption) _)).mono ?_; rintro e w1 ⟨rfl, hb1⟩)
    | (refine ⟨trivial, ?_⟩; gi_at_call 51; refine (ends_in _ a _).mono ?_; rintro e w' ⟨rfl, rfl⟩))
  have hbW1 : Below w.heap.size w w1 := by
    rename Below w.heap.size w _ => hbA
    exact hbA.trans (hb1.mono hbA.size)
  have hm0 : ((more : Int) == 0) = decide (more = 0) := by
    rw [Bool.eq_iff_iff]; simp
  rw [hm0]
  obtain ⟨W0, hW0⟩ : ∃ W0, ((w1.alloc (.cells #[.int .i64 (more : Int)] 3)).alloc (.cells #[.bool (decide (more = 0))] 4)).alloc (.cells #[.string a] 9) = W0 := ⟨_, rfl⟩
  have hsz0 : W0.heap.size = w1.heap.size + 3 := by rw [← hW0]; simp
  have hb10 : Below w1.heap.size w1 W0 := by rw [← hW0]; exact (((Below.refl _ _).alloc (Nat.le_refl _) _).alloc (by simp) _).alloc (by simp; omega) _
  have hbW : Below w.heap.size w W0 := hbW1.trans (hb10.mono hbW1.size)
  have g0 : Blk W0 w1.heap.size 3 #[.int .i64 (more : Int)] := by rw [← hW0]; exact ((Blk.new w1 _ _).alloc _).alloc _
  have b0 : Blk W0 (w1.heap.size + 1) 4 #[.bool (decide (more = 0))] := by
    rw [← hW0]
    have := Blk.new (w1.alloc (.cells #[.int .i64 (more : Int)] 3)) 4 #[.bool (decide (more = 0))]
    rw [World.size_alloc] at this
    exact this.alloc _
  have e0 : Blk W0 (w1.heap.size + 1 + 1) 9 #[.string a] := by
    rw [← hW0]
    have := Blk.new ((w1.alloc (.cells #[.int .i64 (more : Int)] 3)).alloc (.cells #[.bool (decide (more = 0))] 4)) 9 #[.string a]
    rw [World.size_alloc, World.size_alloc] at this
    exact this
  rw [hW0]
  have hwsz := hbW1.size
  clear hW0 hb1
  apply rangeN (gf := 75) (lb := #[.pointer (some ⟨w1.heap.size + 1 + 1, 0, none⟩)]) rfl (enters_of Tryz.func75 (by kernel_rfl) rfl)
    (ends_N (w1.heap.size + 1 + 1) a ha W0 e0) (by omega) (Below.refl _ _) (fun _ => rfl)
    (fun _ pre V => (Blk V w1.heap.size 3 #[.int .i64 (more : Int)] ∧ Blk V (w1.heap.size + 1) 4 #[.bool (decide (more = 0))]) ∧ (∀ y ∈ pre, y < more) ∧ Below w.heap.size w V)
    (fun _ c _ V => c = .exit 0 ∧ (Blk V w1.heap.size 3 #[.int .i64 (more : Int)] ∧ Blk V (w1.heap.size + 1) 4 #[.bool (begL more (endsL a.data.toList))]) ∧ Below w.heap.size w V)
    ?hI ?hIx ?h0
  case hI =>
    rintro X pre A A' ⟨⟨h1, h2⟩, h3, h4⟩ ho
    exact ⟨⟨ho.blk h1 (by omega), ho.blk h2 (by omega)⟩, h3, ho.below h4 (Nat.le_refl _) (by omega)⟩
  case hIx =>
    rintro X c pre A A' ⟨h0, ⟨h1, h2⟩, h4⟩ ho
    exact ⟨h0, ⟨ho.blk h1 (by omega), ho.blk h2 (by omega)⟩, ho.below h4 (Nat.le_refl _) (by omega)⟩
  case h0 =>
    intro X V hV hX
    exact ⟨⟨(hV.block _ (by omega)).trans g0, (hV.block _ (by omega)).trans b0⟩, by simp, hbW.trans (hV.mono hbW.size)⟩
  case hassign =>
    intro l x V K hK
    gi_wp2
    exact hK
  case hbody =>
    rintro l X pre x V hV ⟨⟨hg, hb⟩, hlt, hbV⟩ hpre
    have c0 : V.cell? ⟨w1.heap.size, 0, none⟩ = some (.int .i64 (more : Int)) := hg.cell 0
    have c1 : V.cell? ⟨w1.heap.size + 1, 0, none⟩ = some (.bool (decide (more = 0))) := hb.cell 0
    have f1 := hb.frozen 0
    have HV := Lib.hid (And.intro hbV (And.intro hsz0 (And.intro hV (And.intro hwsz (And.intro hg hb)))))
    have HH := Lib.hid (And.intro hlt hpre)
    have HB2 := Lib.hid (hb.set_ 0 (.bool (begL more (endsL a.data.toList))))
    have HG2 := Lib.hid (hg.far (p := ⟨w1.heap.size + 1, 0, none⟩) (show w1.heap.size ≠ w1.heap.size + 1 by omega) (.bool (begL more (endsL a.data.toList))))
    by_cases hx : more ≤ x
    · have hxI : (more : Int) ≤ (x : Int) := by omega
      have hst := beg_stop hpre hlt hx
      by_cases hm : more = 0
      · rw [decide_eq_true hm] at c1 hst
        have HST := Lib.hid hst
        clear hsz0 hbV hlt hpre hV hbW hb10 g0 b0 e0 hbW1 hwsz hm0 hb hg hst hm hx
        gi_wp2_with (fail)
        obtain ⟨hbV, hsz0, hV, hwsz, hg, hb⟩ := HV.out
        have e1 : begL more (endsL a.data.toList) = true := by rw [← HST.out]; rfl
        have hB2 := HB2.out
        have hG2 := HG2.out
        rw [e1] at hB2 hG2 ⊢
        exact ⟨.cell _ (by show w1.heap.size + 1 < _; omega) (by show w1.heap.size + 1 ≠ _; omega), rfl, ⟨hG2, hB2⟩, hbV.setCell (p := ⟨w1.heap.size + 1, 0, none⟩) (by show w.heap.size ≤ w1.heap.size + 1; omega) _⟩
      · rw [decide_eq_false hm] at c1 hst
        have HST := Lib.hid hst
        clear hsz0 hbV hlt hpre hV hbW hb10 g0 b0 e0 hbW1 hwsz hm0 hb hg hst hm hx
        gi_wp2_with (fail)
        obtain ⟨hbV, hsz0, hV, hwsz, hg, hb⟩ := HV.out
        have e1 : begL more (endsL a.data.toList) = ((x : Int) == (more : Int)) := by rw [← HST.out]; rfl
        have hB2 := HB2.out
        have hG2 := HG2.out
        rw [e1] at hB2 hG2 ⊢
        exact ⟨.cell _ (by show w1.heap.size + 1 < _; omega) (by show w1.heap.size + 1 ≠ _; omega), rfl, ⟨hG2, hB2⟩, hbV.setCell (p := ⟨w1.heap.size + 1, 0, none⟩) (by show w.heap.size ≤ w1.heap.size + 1; omega) _⟩
    · have hxI : ¬ (more : Int) ≤ (x : Int) := by omega
      clear hsz0 hbV hlt hpre hV hbW hb10 g0 b0 e0 hbW1 hwsz hm0 hb hg HB2 HG2
      gi_wp2_with (fail)
      obtain ⟨hbV, hsz0, hV, hwsz, hg, hb⟩ := HV.out
      refine ⟨.refl _ _ _, ⟨hg, hb⟩, ?_, hbV⟩
      intro y hy
      rcases List.mem_append.1 hy with h | h
      · exact HH.out.1 y h
      · have : y = x := by simpa using h
        omega
  case hdone =>
    rintro D X V hD hD2 ⟨⟨hg, hb⟩, hlt, hbV⟩ hK
    rw [beg_done hlt] at hb
    have c0 : V.cell? ⟨w1.heap.size, 0, none⟩ = some (.int .i64 (more : Int)) := hg.cell 0
    have c1 := hb.cell 0
    have hDV : D < V.heap.size := (Array.getElem?_eq_some_iff.1 hK).1
    obtain ⟨_, hz', _, _, hle', hmore'⟩ := HA.out
    have hs1 : (a.extract more a.size).size ≤ 9223372036854775807 := by rw [ByteArray.size_extract]; omega
    have hs2 : z.size ≤ 9223372036854775807 := by unfold maxLen at hz'; omega
    have hm1 : (more : Int) ≤ (a.size : Int) := by omega
    have hcut : (a.extract more a.size).data.toList = a.data.toList.drop more := by
      rw [ByteArray.data_extract, Array.toList_extract, List.extract_eq_take_drop]
      exact List.take_of_length_le (by simp)
    have HX := Lib.hid (And.intro hcut (And.intro hK (And.intro hDV (And.intro hD (And.intro hbV (And.intro hsz0 hwsz))))))
    clear hcut hmore' hle' hz' hDV hD hbV hsz0 hwsz hbW hb10 g0 b0 e0 hbW1 hm0 hb hg hmI haI hca hcz hgt
    cases hbg : begL more (endsL a.data.toList) with
    | false =>
      rw [hbg] at c1
      have HG := Lib.hid hbg
      clear hbg
      gi_wp2_with (refine ⟨trivial, ?_⟩)
      obtain ⟨_, hK, _, hD, hbV, hsz0, hwsz⟩ := HX.out
      refine ⟨by simp, .inl ⟨_, _, rfl, run_takeDeferred hK, _, results_tmp rfl _ _ _, ?_, hbV.trans (belowK_b (w := w) (Nat.le_refl _) V D _ _ (by omega) hK rfl rfl)⟩⟩
      rw [HG.out]
      exact ret_b rfl
    | true =>
      rw [hbg] at c1
      have HG := Lib.hid hbg
      clear hbg
      gi_wp2_with (refine ⟨trivial, ?_⟩; gi_at_call 30; refine (callsIn_wide.2 (Fold_any _ (by assumption) _)).mono ?_; rintro e w2 ⟨rfl, hb2⟩)
      obtain ⟨_, hK, hDV, hD, hbV, hsz0, hwsz⟩ := HX.out
      have hb' : Below V.heap.size V w2 := by
        rename Below V.heap.size V _ => hbF
        exact hbF.trans (hb2.mono hbF.size)
      have hK2 := (hb'.block D hDV).trans hK
      refine ⟨by simp, .inl ⟨_, _, rfl, run_takeDeferred hK2, _, results_tmp rfl _ _ _, ?_, (hbV.trans (hb'.mono hbV.size)).trans (belowK_b (w := w) (Nat.le_refl _) w2 D _ _ (by omega) hK2 rfl rfl)⟩⟩
      rw [HG.out, Bool.true_and]
      exact ret_b (by rw [List.take_of_length_le (by simp)])
  case hstop =>
    rintro D X c pre V hD hD2 hpre ⟨rfl, ⟨hg, hb⟩, hbV⟩ hK
    have c0 : V.cell? ⟨w1.heap.size, 0, none⟩ = some (.int .i64 (more : Int)) := hg.cell 0
    have c1 := hb.cell 0
    have hDV : D < V.heap.size := (Array.getElem?_eq_some_iff.1 hK).1
    obtain ⟨_, hz', _, _, hle', hmore'⟩ := HA.out
    have hs1 : (a.extract more a.size).size ≤ 9223372036854775807 := by rw [ByteArray.size_extract]; omega
    have hs2 : z.size ≤ 9223372036854775807 := by unfold maxLen at hz'; omega
    have hm1 : (more : Int) ≤ (a.size : Int) := by omega
    have hcut : (a.extract more a.size).data.toList = a.data.toList.drop more := by
      rw [ByteArray.data_extract, Array.toList_extract, List.extract_eq_take_drop]
      exact List.take_of_length_le (by simp)
    have HX := Lib.hid (And.intro hcut (And.intro hK (And.intro hDV (And.intro hD (And.intro hbV (And.intro hsz0 hwsz))))))
    clear hcut hmore' hle' hz' hDV hD hbV hsz0 hwsz hbW hb10 g0 b0 e0 hbW1 hm0 hb hg hmI haI hca hcz hgt
    cases hbg : begL more (endsL a.data.toList) with
    | false =>
      rw [hbg] at c1
      have HG := Lib.hid hbg
      clear hbg
      gi_wp2_with (refine ⟨trivial, ?_⟩)
      obtain ⟨_, hK, _, hD, hbV, hsz0, hwsz⟩ := HX.out
      refine ⟨by simp, .inl ⟨_, _, rfl, run_takeDeferred hK, _, results_tmp rfl _ _ _, ?_, hbV.trans (belowK_b (w := w) (Nat.le_refl _) V D _ _ (by omega) hK rfl rfl)⟩⟩
      rw [HG.out]
      exact ret_b rfl
    | true =>
      rw [hbg] at c1
      have HG := Lib.hid hbg
      clear hbg
      gi_wp2_with (refine ⟨trivial, ?_⟩; gi_at_call 30; refine (callsIn_wide.2 (Fold_any _ (by assumption) _)).mono ?_; rintro e w2 ⟨rfl, hb2⟩)
      obtain ⟨_, hK, hDV, hD, hbV, hsz0, hwsz⟩ := HX.out
      have hb' : Below V.heap.size V w2 := by
        rename Below V.heap.size V _ => hbF
        exact hbF.trans (hb2.mono hbF.size)
      have hK2 := (hb'.block D hDV).trans hK
      refine ⟨by simp, .inl ⟨_, _, rfl, run_takeDeferred hK2, _, results_tmp rfl _ _ _, ?_, (hbV.trans (hb'.mono hbV.size)).trans (belowK_b (w := w) (Nat.le_refl _) w2 D _ _ (by omega) hK2 rfl rfl)⟩⟩
      rw [HG.out, Bool.true_and]
      exact ret_b (by rw [List.take_of_length_le (by simp)])


set_option maxRecDepth 100000 in
set_option maxHeartbeats 1000000 in
theorem Within_no1 (a z : ByteArray) (ha : a.size ≤ maxLen) (hz : z.size ≤ maxLen) (hna : isName a.data.toList = false) (w : World) :
    Calls Tryz.prog 28 #[.string a, .string z] w fun e w' => e = .returned (.bool false) ∧ Below w.heap.size w w' := by
  obtain ⟨n, hn⟩ : ∃ n : Nat, 8 ≤ n := ⟨8, by omega⟩
  refine (callsIn_wide (n := n)).1 ?_
  have h1n : 1 ≤ n := by omega
  have hca : chkN a.data.toList = 2 := by unfold chkN; rw [if_neg (by rw [hna]; simp)]
  clear hna hn
  refine callsIn_of_wp_marks Tryz.func28 rfl trivial ?_ rfl
  simp only [Tryz.ntmps28, List.size_toArray, List.length_cons, List.length_nil, Nat.reduceAdd, Nat.reduceSub, Array.replicate_succ, Array.replicate_zero, List.push_toArray, List.append_toArray, List.nil_append, List.cons_append]
  gi_wp2_with (first
    | (refine ⟨trivial, ?_⟩; gi_at_call 29; refine (callsIn_wide.2 (Check_any _ (by assumption) _)).mono ?_; rintro e w1 ⟨rfl, hb1⟩)
    | (refine ⟨trivial, ?_⟩))
  exact ⟨_, results_tmp rfl _ _ _, rfl, hb1⟩

set_option maxRecDepth 100000 in
set_option maxHeartbeats 1000000 in
theorem Within_no2 (a z : ByteArray) (ha : a.size ≤ maxLen) (hz : z.size ≤ maxLen) (hna : isName a.data.toList = true) (hnz : isName z.data.toList = false) (w : World) :
    Calls Tryz.prog 28 #[.string a, .string z] w fun e w' => e = .returned (.bool false) ∧ Below w.heap.size w w' := by
  obtain ⟨n, hn⟩ : ∃ n : Nat, 8 ≤ n := ⟨8, by omega⟩
  refine (callsIn_wide (n := n)).1 ?_
  have h1n : 1 ≤ n := by omega
  have hca : chkN a.data.toList = 0 := by unfold chkN; rw [if_pos hna]
  have hcz : chkN z.data.toList = 2 := by unfold chkN; rw [if_neg (by rw [hnz]; simp)]
  clear hna hnz hn
  refine callsIn_of_wp_marks Tryz.func28 rfl trivial ?_ rfl
  simp only [Tryz.ntmps28, List.size_toArray, List.length_cons, List.length_nil, Nat.reduceAdd, Nat.reduceSub, Array.replicate_succ, Array.replicate_zero, List.push_toArray, List.append_toArray, List.nil_append, List.cons_append]
  gi_wp2_with (first
    | (refine ⟨trivial, ?_⟩; gi_at_call 29; refine (callsIn_wide.2 (Check_any _ (by assumption) _)).mono ?_; rintro e w1 ⟨rfl, hb1⟩)
    | (refine ⟨trivial, ?_⟩))
  refine ⟨_, results_tmp rfl _ _ _, rfl, ?_⟩
  rename Below w.heap.size w _ => hbA
  exact hbA.trans (hb1.mono hbA.size)

set_option maxRecDepth 100000 in
set_option maxHeartbeats 1000000 in
theorem Within_no3 (a z : ByteArray) (ha : a.size ≤ maxLen) (hz : z.size ≤ maxLen) (hna : isName a.data.toList = true) (hnz : isName z.data.toList = true) (hlt : a.size < z.size) (w : World) :
    Calls Tryz.prog 28 #[.string a, .string z] w fun e w' => e = .returned (.bool false) ∧ Below w.heap.size w w' := by
  obtain ⟨n, hn⟩ : ∃ n : Nat, 8 ≤ n := ⟨8, by omega⟩
  refine (callsIn_wide (n := n)).1 ?_
  have h1n : 1 ≤ n := by omega
  have hca : chkN a.data.toList = 0 := by unfold chkN; rw [if_pos hna]
  have hcz : chkN z.data.toList = 0 := by unfold chkN; rw [if_pos hnz]
  have hgt : (a.size : Int) < (z.size : Int) := by omega
  clear hna hnz hn hlt
  refine callsIn_of_wp_marks Tryz.func28 rfl trivial ?_ rfl
  simp only [Tryz.ntmps28, List.size_toArray, List.length_cons, List.length_nil, Nat.reduceAdd, Nat.reduceSub, Array.replicate_succ, Array.replicate_zero, List.push_toArray, List.append_toArray, List.nil_append, List.cons_append]
  gi_wp2_with (first
    | (refine ⟨trivial, ?_⟩; gi_at_call 29; refine (callsIn_wide.2 (Check_any _ (by assumption) _)).mono ?_; rintro e w1 ⟨rfl, hb1⟩)
    | (refine ⟨trivial, ?_⟩))
  refine ⟨_, results_tmp rfl _ _ _, rfl, ?_⟩
  rename Below w.heap.size w _ => hbA
  exact hbA.trans (hb1.mono hbA.size)

theorem Within_any (a z : ByteArray) (ha : a.size ≤ maxLen) (hz : z.size ≤ maxLen) (w : World) :
    Calls Tryz.prog 28 #[.string a, .string z] w fun e w' => e = .returned (.bool (withinB a.data.toList z.data.toList)) ∧ Below w.heap.size w w' := by
  have hla : a.data.toList.length = a.size := by simp
  have hlz : z.data.toList.length = z.size := by simp
  unfold withinB
  rw [hla, hlz]
  cases hna : isName a.data.toList
  · exact Within_no1 a z ha hz hna w
  cases hnz : isName z.data.toList
  · exact Within_no2 a z ha hz hna hnz w
  by_cases hle : z.size ≤ a.size
  · rw [decide_eq_true hle]
    exact Within_big a z ha hz hna hnz hle w
  · rw [decide_eq_false hle]
    exact Within_no3 a z ha hz hna hnz (by omega) w
end Go.Proofs.YthnngndnpigjbaaGreat

namespace Go.Proofs.YthnngndnpigjbaaGreat

/-- What is left behind some labels is a name again. -/
theorem drop_labs {l : Bs} (h : isName l = true) (k : Nat) : labs (l.drop (pos (labs l).1 k)) = ((labs l).1.drop k, [0]) := by
  rw [labs_drop, ((isName_iff l).1 h).2]
theorem drop_name {l : Bs} (h : isName l = true) (k : Nat) : isName (l.drop (pos (labs l).1 k)) = true := by
  rw [isName_iff, drop_labs h]
  have := ((isName_iff l).1 h).1
  exact ⟨by simp; omega, rfl⟩
theorem pos_split (ls : List Bs) {i j : Nat} (h : i ≤ j) : pos ls j = pos ls i + pos (ls.drop i) (j - i) := by
  obtain ⟨k, rfl⟩ : ∃ k, j = i + k := ⟨j - i, by omega⟩
  unfold pos
  rw [List.take_add, Nat.add_sub_cancel_left, enc_append, List.length_append]
theorem foldB_enc : ∀ ls : List Bs, (∀ x ∈ ls, okL x) → foldB (enc ls) = enc (ls.map foldB)
  | [], _ => rfl
  | x :: xs, h => by
    have hx := h x (by simp)
    unfold okL at hx
    have e : lowB (UInt8.ofNat x.length) = UInt8.ofNat x.length := by
      unfold lowB
      rw [if_neg]
      rw [UInt8.toNat_ofNat']
      omega
    have ih := foldB_enc xs (fun y hy => h y (by simp [hy]))
    have e2 : foldB (enc (x :: xs)) = lowB (UInt8.ofNat x.length) :: (foldB x ++ foldB (enc xs)) := by simp [enc, foldB]
    rw [e2, e, ih]
    simp [enc, foldB_length]
theorem foldB_mk {ls : List Bs} (h : ∀ x ∈ ls, okL x) : foldB (mk ls) = mk (ls.map foldB) := by
  unfold mk
  have : foldB (enc ls ++ [0]) = foldB (enc ls) ++ [0] := by simp [foldB, lowB]
  rw [this, foldB_enc ls h]
theorem fold_name {l : Bs} (h : isName l = true) : foldB l = mk ((labs l).1.map foldB) := by
  conv => lhs; rw [← mk_labs h]
  exact foldB_mk (labs_ok l)
theorem fold_eq_iff {a b : Bs} (ha : isName a = true) (hb : isName b = true) : foldB a = foldB b ↔ (labs a).1.map foldB = (labs b).1.map foldB := by
  constructor
  · intro h
    have h1 := labs_fold a
    have h2 := labs_fold b
    rw [h] at h1
    rw [h1] at h2
    exact congrArg Prod.fst h2
  · intro h
    rw [fold_name ha, fold_name hb, h]
theorem beg_iff {l : Bs} {m : Nat} : begL m (endsL l) = true ↔ ∃ k, k ≤ (labs l).1.length ∧ m = pos (labs l).1 k := by
  unfold begL endsL
  simp only [Bool.or_eq_true, decide_eq_true_eq, List.mem_map, List.mem_range]
  constructor
  · rintro (h | ⟨t, ht, h⟩)
    · exact ⟨0, Nat.zero_le _, by rw [pos_zero]; exact h⟩
    · exact ⟨t + 1, ht, h.symm⟩
  · rintro ⟨k, hk, h⟩
    cases k with
    | zero => left; rw [pos_zero] at h; exact h
    | succ t => exact .inr ⟨t, hk, h.symm⟩
/-- The one lies within the other: both are names, and the labels of the other are the last ones of the first, but for small letters. -/
theorem within_iff (a z : Bs) : withinB a z = true ↔ isName a = true ∧ isName z = true ∧ (labs z).1.map foldB <:+ (labs a).1.map foldB := by
  unfold withinB
  simp only [Bool.and_eq_true, decide_eq_true_eq, beq_iff_eq, beg_iff]
  constructor
  · rintro ⟨ha, hz, hle, ⟨k, hk, hm⟩, hf⟩
    refine ⟨ha, hz, ?_⟩
    rw [hm] at hf
    have h1 := (fold_eq_iff (drop_name ha k) hz).1 hf
    rw [drop_labs ha] at h1
    rw [← h1, List.map_drop]
    exact List.drop_suffix _ _
  · rintro ⟨ha, hz, hs⟩
    obtain ⟨k, hk, hd⟩ : ∃ k, k ≤ (labs a).1.length ∧ (labs z).1.map foldB = ((labs a).1.map foldB).drop k := by
      obtain ⟨p, hp⟩ := hs
      refine ⟨p.length, ?_, ?_⟩
      · have := congrArg List.length hp; simp at this; omega
      · rw [← hp, List.drop_left]
    have hf : foldB (a.drop (pos (labs a).1 k)) = foldB z := by
      rw [fold_eq_iff (drop_name ha k) hz, drop_labs ha, hd, List.map_drop]
    have hl := congrArg List.length hf
    rw [foldB_length, foldB_length, List.length_drop] at hl
    have hp := pos_le (labs a).1 k
    have he := enc_le a
    have hm : a.length - z.length = pos (labs a).1 k := by omega
    exact ⟨ha, hz, by omega, ⟨k, hk, hm⟩, by rw [hm]; exact hf⟩
theorem withinB_eq (a z : Bs) : withinB a z = decide (isName a = true ∧ isName z = true ∧ (labs z).1.map foldB <:+ (labs a).1.map foldB) := by
  rw [Bool.eq_iff_iff, within_iff]; simp
theorem within_drop {l : Bs} (h : isName l = true) {i j : Nat} (hij : i ≤ j) : withinB (l.drop (pos (labs l).1 i)) (l.drop (pos (labs l).1 j)) = true := by
  rw [within_iff, drop_labs h, drop_labs h]
  refine ⟨drop_name h i, drop_name h j, ?_⟩
  rw [List.map_drop, List.map_drop]
  obtain ⟨k, rfl⟩ : ∃ k, j = i + k := ⟨j - i, by omega⟩
  rw [← List.drop_drop]
  exact List.drop_suffix _ _
theorem drop_zero_pos (l : Bs) : l.drop (pos (labs l).1 0) = l := by rw [pos_zero]; rfl
theorem within_refl {l : Bs} (h : isName l = true) : withinB l l = true := by
  have := within_drop h (Nat.le_refl 0)
  rwa [drop_zero_pos] at this
theorem within_no {a z : Bs} (h : isName a = false) : withinB a z = false := by unfold withinB; rw [h]; rfl
theorem within_no2 {a z : Bs} (h : isName z = false) : withinB a z = false := by unfold withinB; rw [h]; simp
theorem within_trans {a b c : Bs} (h1 : withinB a b = true) (h2 : withinB b c = true) : withinB a c = true := by
  rw [within_iff] at *
  exact ⟨h1.1, h2.2.1, h2.2.2.trans h1.2.2⟩
theorem within_len {a b : Bs} (h : withinB a b = true) : (labs b).1.length ≤ (labs a).1.length := by
  rw [within_iff] at h
  have := h.2.2.length_le
  simpa using this
theorem root_name : isName [0] = true := by decide
theorem root_labs : (labs [0]).1 = [] := by decide
theorem within_root {a : Bs} (h : isName a = true) : withinB a [0] = true := by
  rw [within_iff, root_labs]
  exact ⟨h, root_name, List.nil_suffix⟩
/-- The labels of a name in small letters. -/
def lowL (l : Bs) : List Bs := (labs l).1.map foldB
theorem lowL_drop {a : Bs} (h : isName a = true) (k : Nat) : lowL (a.drop (pos (labs a).1 k)) = (lowL a).drop k := by
  unfold lowL
  rw [drop_labs h, List.map_drop]
theorem within_low {a z : Bs} (ha : isName a = true) (hz : isName z = true) : withinB a z = true ↔ lowL z <:+ lowL a := by
  rw [within_iff]
  exact ⟨fun h => h.2.2, fun h => ⟨ha, hz, h⟩⟩
theorem suffix_drop {α : Type} {l m : List α} (h : l <:+ m) : l = m.drop (m.length - l.length) := by
  obtain ⟨t, rfl⟩ := h
  simp
end Go.Proofs.YthnngndnpigjbaaGreat
