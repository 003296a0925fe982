/- The walk of hardtacklaw02.WalkCommon. -/
import Derived.Test.YtjhhhkhcnohmiaaLives02
import Derived.Test.YtjhhhkhcnohmiaaWalkP
namespace Go.Proofs.Ytjhhhkhcnohmiaa
open Go.RowKit Go.Shelf Go.Lib
attribute [local go_sem] Oper.semAt_some

def bxs (s : Int) (w : World) : World := (w.alloc (.cells #[.int .i64 s] 3)).alloc (.cells #[.bool false] 4)
theorem bxs_is (s : Int) (w : World) : (w.alloc (.cells #[.int .i64 s] 3)).alloc (.cells #[.bool false] 4) = bxs s w := rfl
theorem bxs_size (s : Int) (w : World) : (bxs s w).heap.size = w.heap.size + 2 := by simp [bxs]
theorem bxs_below (s : Int) (w : World) : Below w.heap.size w (bxs s w) := ((Below.refl _ _).alloc (Nat.le_refl _) _).alloc (by simp) _
theorem bxs_0 (s : Int) (w : World) : Blk (bxs s w) w.heap.size 3 #[.int .i64 s] := (Blk.new w _ _).alloc _
theorem bxs_1 (s : Int) (w : World) : Blk (bxs s w) (w.heap.size + 1) 4 #[.bool false] := by
  have := Blk.new (w.alloc (.cells #[.int .i64 s] 3)) 4 #[.bool false]
  rw [World.size_alloc] at this
  exact this

set_option maxHeartbeats 4000000 in
set_option maxRecDepth 100000 in
theorem common_no (a b c : ByteArray) (s : Int) (ha : a.size ≤ maxLen) (hb : b.size ≤ maxLen) (w : World) (hn : (isName a.data.toList && isName b.data.toList) = false) :
    Calls Try.prog 10 #[.string a, .string b, .string c, .int .i64 s] w fun e w' => e = .returned (.bool true) ∧ Below w.heap.size w w' := by
  have H1 := Lib.hid (fun W => Common_no a b ha hb hn W)
  have H2 := Lib.hid (fun W => Common_no b a hb ha (by rw [Bool.and_comm]; exact hn) W)
  obtain ⟨n, hn'⟩ : ∃ n : Nat, 8 ≤ n := ⟨8, by omega⟩
  refine (callsIn_wide (n := n)).1 ?_
  have h1n : 1 ≤ n := by omega
  clear hn' hn
  refine callsIn_of_wp_marks Try.func10 rfl trivial ?_ rfl
  simp only [Try.ntmps10, List.size_toArray, List.length_cons, List.length_nil, Nat.reduceAdd, Nat.reduceSub, Array.replicate_succ, Array.replicate_zero, List.push_toArray, List.append_toArray, List.nil_append, List.cons_append]
  gi_wp2_with (fail)
  rw [bxs_is]
  refine ⟨trivial, ?_⟩
  refine (callsIn_wide.2 (lives02 _)).mono ?_
  rintro e w1 ⟨rfl, hb1⟩
  have B1 := Lib.hid hb1
  clear hb1
  gi_wp2_with (fail)
  refine ⟨trivial, ?_⟩
  refine (callsIn_wide.2 (H1.out _)).mono ?_
  rintro e w2 ⟨rfl, hb2⟩
  have B2 := Lib.hid (B1.out.trans (hb2.mono B1.out.size))
  clear hb2
  gi_wp2_with (fail)
  refine ⟨trivial, ?_⟩
  refine (callsIn_wide.2 (H2.out _)).mono ?_
  rintro e w3 ⟨rfl, hb3⟩
  have B3 := Lib.hid (B2.out.trans (hb3.mono B2.out.size))
  clear hb3
  have hz := bxs_size s w
  have r1 := (bxs_1 s w).below B3.out (by omega)
  have c1 := r1.cell 0
  have f1 := r1.frozen 0
  have R := Lib.hid (And.intro r1 hz)
  clear r1 hz
  gi_wp2_with (fail)
  have d1 := (R.out.1.set_ 0 (.bool true)).cell 0
  exact ⟨.bool true, by simp [results, Try.results10, go_sem, d1], rfl, ((bxs_below s w).trans (B3.out.mono (bxs_below s w).size)).setCell (p := ⟨w.heap.size + 1, 0, none⟩) (by show w.heap.size ≤ w.heap.size + 1; omega) _⟩

set_option maxHeartbeats 8000000 in
set_option maxRecDepth 100000 in
theorem common_yes (a b c : ByteArray) (s : Int) (hs : -9223372036854775808 ≤ s ∧ s ≤ 9223372036854775807) (ha : a.size ≤ maxLen) (hb : b.size ≤ maxLen) (hc : c.size ≤ maxLen) (w : World) (hna : isName a.data.toList = true) (hnb : isName b.data.toList = true) :
    Calls Try.prog 10 #[.string a, .string b, .string c, .int .i64 s] w fun e w' => e = .returned (.bool true) ∧ Below w.heap.size w w' := by
  have hnil : ∀ (lb : Array Value) (W : World), (binOp .neq 53 (.func (.func 72) #[] lb) .nilFunc).run Try.prog W = .ok (.bool true) W := fun _ _ => by rfl
  have H1 := Lib.hid (fun W => Common_yes a b ha hb hna hnb W)
  have H2 := Lib.hid (fun W => Common_yes b a hb ha hnb hna W)
  obtain ⟨x, hx⟩ : ∃ x : ByteArray, (⟨(comB a.data.toList b.data.toList).toArray⟩ : ByteArray) = x := ⟨_, rfl⟩
  obtain ⟨y, hy⟩ : ∃ y : ByteArray, (⟨(comB b.data.toList a.data.toList).toArray⟩ : ByteArray) = y := ⟨_, rfl⟩
  have hxl : comB a.data.toList b.data.toList = x.data.toList := by rw [← hx]
  have hyl : comB b.data.toList a.data.toList = y.data.toList := by rw [← hy]
  have hxn := com_name hna hnb
  have hyn := com_name hnb hna
  have hsame := com_same hna hnb
  have hwi := com_within hna hnb
  have hbe := fun h1 h2 => com_beyond (c := c.data.toList) hna hnb h1 h2
  rw [hx] at H1
  rw [hy] at H2
  rw [hxl] at hxn hsame hwi hbe
  rw [hyl] at hyn hsame
  have hxs := ((isName_iff _).1 hxn).1
  have hys := ((isName_iff _).1 hyn).1
  simp only [ByteArray.size_data, Array.length_toList] at hxs hys
  have hxm : x.size ≤ maxLen := by unfold maxLen; omega
  have HS := Lib.hid (fun W => Same_any x y (by omega) (by omega) W)
  have HA := Lib.hid (fun W => Within_any a x ha hxm W)
  have HB := Lib.hid (fun W => Within_any b x hb hxm W)
  have HP := Lib.hid (fun W => Within_any a c ha hc W)
  have HQ := Lib.hid (fun W => Within_any b c hb hc W)
  have HX := Lib.hid (fun W => Within_any x c hxm hc W)
  rw [hsame] at HS
  rw [hwi.1] at HA
  rw [hwi.2] at HB
  have HU := Lib.hid (And.intro ha hna)
  obtain ⟨p, hp⟩ : ∃ p, withinB a.data.toList c.data.toList = p := ⟨_, rfl⟩
  obtain ⟨q, hq⟩ : ∃ q, withinB b.data.toList c.data.toList = q := ⟨_, rfl⟩
  rw [hp] at HP hbe
  rw [hq] at HQ hbe
  have HBE := Lib.hid hbe
  obtain ⟨n, hn'⟩ : ∃ n : Nat, 8 ≤ n := ⟨8, by omega⟩
  refine (callsIn_wide (n := n)).1 ?_
  have h1n : 1 ≤ n := by omega
  obtain ⟨hs1, hs2⟩ := hs
  clear hna hnb ha hb hc hx hy hxl hyl hxn hyn hsame hwi hbe hxs hys hxm hp hq
  refine callsIn_of_wp_marks Try.func10 rfl trivial ?_ rfl
  simp only [Try.ntmps10, List.size_toArray, List.length_cons, List.length_nil, Nat.reduceAdd, Nat.reduceSub, Array.replicate_succ, Array.replicate_zero, List.push_toArray, List.append_toArray, List.nil_append, List.cons_append]
  gi_wp2_with (fail)
  rw [bxs_is]
  have B0 := Lib.hid (Below.refl (bxs s w).heap.size (bxs s w))
  refine ⟨trivial, ?_⟩
  refine (callsIn_wide.2 (lives02 _)).mono ?_
  rintro e w1 ⟨rfl, hb⟩
  have B1 := Lib.hid (B0.out.trans (hb.mono B0.out.size))
  clear hb
  gi_wp2_with (fail)
  refine ⟨trivial, ?_⟩
  refine (callsIn_wide.2 (H1.out _)).mono ?_
  rintro e w2 ⟨rfl, hb⟩
  have B2 := Lib.hid (B1.out.trans (hb.mono B1.out.size))
  clear hb
  gi_wp2_with (fail)
  refine ⟨trivial, ?_⟩
  refine (callsIn_wide.2 (H2.out _)).mono ?_
  rintro e w3 ⟨rfl, hb⟩
  have B3 := Lib.hid (B2.out.trans (hb.mono B2.out.size))
  clear hb
  gi_wp2_with (fail)
  refine ⟨trivial, ?_⟩
  refine (callsIn_wide.2 (HS.out _)).mono ?_
  rintro e w4 ⟨rfl, hb⟩
  have B4 := Lib.hid (B3.out.trans (hb.mono B3.out.size))
  clear hb
  gi_wp2_with (fail)
  refine ⟨trivial, ?_⟩
  refine (callsIn_wide.2 (HA.out _)).mono ?_
  rintro e w5 ⟨rfl, hb⟩
  have B5 := Lib.hid (B4.out.trans (hb.mono B4.out.size))
  clear hb
  gi_wp2_with (fail)
  refine ⟨trivial, ?_⟩
  refine (callsIn_wide.2 (HB.out _)).mono ?_
  rintro e w6 ⟨rfl, hb⟩
  have B6 := Lib.hid (B5.out.trans (hb.mono B5.out.size))
  clear hb
  gi_wp2_with (fail)
  cases p
  case' false =>
    refine ⟨trivial, ?_⟩
    refine (callsIn_wide.2 (HP.out _)).mono ?_
    rintro e V ⟨rfl, hb⟩
    have BV := Lib.hid (B6.out.trans (hb.mono B6.out.size))
    clear hb
    gi_wp2_with (fail)
    refine ⟨trivial, ?_⟩
    gi_wp2_with (fail)
    refine ⟨trivial, ?_⟩
    gi_wp2_with (fail)
  case' true => cases q
  case' true.false =>
    refine ⟨trivial, ?_⟩
    refine (callsIn_wide.2 (HP.out _)).mono ?_
    rintro e w7 ⟨rfl, hb⟩
    have B7 := Lib.hid (B6.out.trans (hb.mono B6.out.size))
    clear hb
    gi_wp2_with (fail)
    refine ⟨trivial, ?_⟩
    refine (callsIn_wide.2 (HQ.out _)).mono ?_
    rintro e V ⟨rfl, hb⟩
    have BV := Lib.hid (B7.out.trans (hb.mono B7.out.size))
    clear hb
    gi_wp2_with (fail)
    refine ⟨trivial, ?_⟩
    gi_wp2_with (fail)
  case' true.true =>
    rw [HBE.out rfl rfl] at HX
    refine ⟨trivial, ?_⟩
    refine (callsIn_wide.2 (HP.out _)).mono ?_
    rintro e w7 ⟨rfl, hb⟩
    have B7 := Lib.hid (B6.out.trans (hb.mono B6.out.size))
    clear hb
    gi_wp2_with (fail)
    refine ⟨trivial, ?_⟩
    refine (callsIn_wide.2 (HQ.out _)).mono ?_
    rintro e w8 ⟨rfl, hb⟩
    have B8 := Lib.hid (B7.out.trans (hb.mono B7.out.size))
    clear hb
    gi_wp2_with (fail)
    refine ⟨trivial, ?_⟩
    refine (callsIn_wide.2 (HX.out _)).mono ?_
    rintro e V ⟨rfl, hb⟩
    have BV := Lib.hid (B8.out.trans (hb.mono B8.out.size))
    clear hb
    gi_wp2_with (fail)
  all_goals
    refine ⟨trivial, ?_⟩
    refine (Up_in _ a _).mono ?_
    rintro e w' ⟨rfl, rfl⟩
    gi_wp2_with (fail)
    clear hnil
    obtain ⟨W0, hW0⟩ : ∃ W0, (V.alloc (.cells #[.string a] 9)).alloc (.cells #[.int .i64 0] 3) = W0 := ⟨_, rfl⟩
    have hz0 := bxs_size s w
    have hzV := BV.out.size
    have hbV : Below w.heap.size w V := (bxs_below s w).trans (BV.out.mono (bxs_below s w).size)
    have hsz0 : W0.heap.size = V.heap.size + 2 := by rw [← hW0]; simp
    have hb20 : Below V.heap.size V W0 := by rw [← hW0]; exact ((Below.refl _ _).alloc (Nat.le_refl _) _).alloc (by simp) _
    have hbW : Below w.heap.size w W0 := hbV.trans (hb20.mono hbV.size)
    have s0 : Blk W0 w.heap.size 3 #[.int .i64 s] := ((bxs_0 s w).below BV.out (by omega)).below hb20 (by omega)
    have s1 : Blk W0 (w.heap.size + 1) 4 #[.bool false] := ((bxs_1 s w).below BV.out (by omega)).below hb20 (by omega)
    have e0 : Blk W0 V.heap.size 9 #[.string a] := by rw [← hW0]; exact (Blk.new V _ _).alloc _
    have n0 : Blk W0 (V.heap.size + 1) 3 #[.int .i64 ((0 : Nat) : Int)] := by
      rw [← hW0]
      have := Blk.new (V.alloc (.cells #[.string a] 9)) 3 #[.int .i64 0]
      rw [World.size_alloc] at this
      exact this
    rw [hW0]
    clear hW0
    apply rangeN (gf := 72) (lb := #[.pointer (some ⟨V.heap.size, 0, none⟩)]) rfl (enters_of Try.func72 (by kernel_rfl) rfl)
      (Up1_N V.heap.size a HU.out.1 W0 e0) (by omega) (Below.refl _ _) (fun _ => rfl)
      (fun _ pre U => (Blk U w.heap.size 3 #[.int .i64 s] ∧ Blk U (w.heap.size + 1) 4 #[.bool false] ∧ Blk U (V.heap.size + 1) 3 #[.int .i64 (pre.length : Int)]) ∧ Below w.heap.size w U)
      (fun _ cd _ U => cd = .ret ∧ Blk U (w.heap.size + 1) 4 #[.bool true] ∧ Below w.heap.size w U)
      ?hI ?hIx ?h0
    case hI =>
      rintro X pre A A' ⟨⟨h1, h2, h3⟩, h4⟩ ho
      exact ⟨⟨ho.blk h1 (by omega), ho.blk h2 (by omega), ho.blk h3 (by omega)⟩, ho.below h4 (Nat.le_refl _) (by omega)⟩
    case hIx =>
      rintro X cd pre A A' ⟨h0, h1, h4⟩ ho
      exact ⟨h0, ho.blk h1 (by omega), ho.below h4 (Nat.le_refl _) (by omega)⟩
    case h0 =>
      intro X U hU hX
      exact ⟨⟨(hU.block _ (by omega)).trans s0, (hU.block _ (by omega)).trans s1, (hU.block _ (by omega)).trans n0⟩, hbW.trans (hU.mono hbW.size)⟩
    case hassign =>
      intro l z U K hK
      gi_wp2
      exact hK
    case hbody =>
      rintro l X pre z U hU ⟨⟨h1, h2, h3⟩, h5⟩ hpre
      have c0 := h1.cell 0
      have c1 := h2.cell 0
      have c2 : U.cell? ⟨V.heap.size + 1, 0, none⟩ = some (.int .i64 (pre.length : Int)) := h3.cell 0
      have f1 := h2.frozen 0
      have f2 := h3.frozen 0
      have hpl : (pre.length : Int) ≤ 1000 := by
        have h6 := prefix_lt hpre
        have h7 := ups_le a.data.toList
        omega
      have HV := Lib.hid (And.intro h1 (And.intro h2 (And.intro h3 (And.intro h5 (And.intro hsz0 (And.intro hU (And.intro hzV hz0)))))))
      by_cases he : (pre.length : Int) = s
      · have he2 : ((pre.length : Int) == s) = true := by rw [beq_iff_eq]; exact he
        clear h1 h2 h3 h5 hsz0 hU hzV hz0 hpre hbW hb20 s0 s1 e0 n0 hbV he
        gi_wp2_with (fail)
        obtain ⟨h1, h2, h3, h5, hsz0, hU, hzV, hz0⟩ := HV.out
        exact ⟨.cell _ (by show w.heap.size + 1 < _; omega) (by show w.heap.size + 1 ≠ _; omega), rfl, h2.set_ 0 _, h5.setCell (p := ⟨w.heap.size + 1, 0, none⟩) (by show w.heap.size ≤ w.heap.size + 1; omega) _⟩
      · have he2 : ((pre.length : Int) == s) = false := by rw [beq_eq_false_iff_ne]; exact he
        clear h1 h2 h3 h5 hsz0 hU hzV hz0 hpre hbW hb20 s0 s1 e0 n0 hbV he
        gi_wp2_with (fail)
        obtain ⟨h1, h2, h3, h5, hsz0, hU, hzV, hz0⟩ := HV.out
        refine ⟨.cell _ (by show V.heap.size + 1 < _; omega) (by show V.heap.size + 1 ≠ _; omega), ⟨?_, ?_, ?_⟩, ?_⟩
        · exact h1.far (p := ⟨V.heap.size + 1, 0, none⟩) (show w.heap.size ≠ V.heap.size + 1 by omega) _
        · exact h2.far (p := ⟨V.heap.size + 1, 0, none⟩) (show w.heap.size + 1 ≠ V.heap.size + 1 by omega) _
        · rw [List.length_append]
          exact h3.set_ 0 _
        · exact h5.setCell (p := ⟨V.heap.size + 1, 0, none⟩) (by show w.heap.size ≤ V.heap.size + 1; omega) _
    case hdone =>
      rintro D X U hD hD2 ⟨⟨h1, h2, h3⟩, h5⟩ hK
      have c1 := h2.cell 0
      have f1 := h2.frozen 0
      have H := Lib.hid (And.intro h2 (And.intro h5 (And.intro hK (And.intro hsz0 (And.intro hzV hz0)))))
      clear h1 h2 h3 h5 hsz0 hzV hz0 hbW hb20 s0 s1 e0 n0 hbV hK
      gi_wp2_with (fail)
      obtain ⟨h2, h5, hK, hsz0, hzV, hz0⟩ := H.out
      obtain ⟨U2, hU2⟩ : ∃ U2, U.setCell ⟨w.heap.size + 1, 0, none⟩ (.bool true) = U2 := ⟨_, rfl⟩
      have hK2 : U2.heap[D]? = some (.deferred (some [])) := by rw [← hU2]; exact (Below.heap_setCell _ _ _ _ (by show D ≠ w.heap.size + 1; omega)).trans hK
      have h22 : Blk U2 (w.heap.size + 1) 4 #[.bool true] := by rw [← hU2]; exact h2.set_ 0 _
      have h52 : Below w.heap.size w U2 := by rw [← hU2]; exact h5.setCell (p := ⟨w.heap.size + 1, 0, none⟩) (by show w.heap.size ≤ w.heap.size + 1; omega) _
      rw [hU2]
      have HKB : Below w.heap.size w (U2.putObj D (.deferred none)) := h52.trans (belowK_b (w := w) (Nat.le_refl _) U2 D _ _ (by omega) hK2 rfl rfl)
      have d1 : (U2.putObj D (.deferred none)).cell? ⟨w.heap.size + 1, 0, none⟩ = some (.bool true) := (World.cell?_of_block (World.putObj_heap_other (show w.heap.size + 1 ≠ D by omega))).trans (h22.cell 0)
      exact ⟨by simp, .inl ⟨_, _, rfl, run_takeDeferred hK2, .bool true, by simp [results, Try.results10, go_sem, d1], rfl, HKB⟩⟩
    case hstop =>
      rintro D X cd pre U hD hD2 hpre ⟨rfl, h1, h5⟩ hK
      have d1 : (U.putObj D (.deferred none)).cell? ⟨w.heap.size + 1, 0, none⟩ = some (.bool true) := (World.cell?_of_block (World.putObj_heap_other (show w.heap.size + 1 ≠ D by omega))).trans (h1.cell 0)
      have HB2 : Hid (Below w.heap.size w (U.putObj D (.deferred none))) := Lib.hid (h5.trans (belowK_b (w := w) (Nat.le_refl _) U D _ _ (by omega) hK rfl rfl))
      clear hbW hb20 s0 s1 e0 n0 hbV
      gi_wp2_with (fail)
      exact ⟨by simp, .inl ⟨_, _, rfl, run_takeDeferred hK, .bool true, by simp [results, Try.results10, go_sem, d1], rfl, HB2.out⟩⟩

theorem walkCommon_law (a b c : ByteArray) (s : Int) (ha : a.size ≤ maxLen) (hb : b.size ≤ maxLen) (hc : c.size ≤ maxLen) (hs : -9223372036854775808 ≤ s ∧ s ≤ 9223372036854775807) (w : World) :
    Calls Try.prog 10 #[.string a, .string b, .string c, .int .i64 s] w fun e w' => e = .returned (.bool true) ∧ Below w.heap.size w w' := by
  by_cases hn : (isName a.data.toList && isName b.data.toList) = true
  · simp only [Bool.and_eq_true] at hn
    exact common_yes a b c s hs ha hb hc w hn.1 hn.2
  · exact common_no a b c s ha hb w (by simpa using hn)
end Go.Proofs.Ytjhhhkhcnohmiaa
