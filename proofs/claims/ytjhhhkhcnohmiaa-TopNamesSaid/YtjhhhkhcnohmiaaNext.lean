/- The walk of package walk's Next. The walk of package walk's Next where it answers with an error. -/
import Derived.Test.YtjhhhkhcnohmiaaUp
namespace Go.Proofs.Ytjhhhkhcnohmiaa
open Go.RowKit Go.Shelf
attribute [local go_sem] Oper.semAt_some

theorem ups_get {l : Bs} (h : isName l = true) {pre : List Bs} {x : Bs} (hp : pre ++ [x] <+: upsL l) : x = l.drop (pos (labs l).1 pre.length) ∧ pre.length ≤ (labs l).1.length := by
  have h1 := prefix_lt hp
  have h1' := h1
  rw [ups_length h] at h1
  refine ⟨?_, by omega⟩
  have h2 := List.prefix_iff_eq_take.1 hp
  have h3 : (pre ++ [x])[pre.length]? = some x := by simp
  rw [h2] at h3
  simp only [List.length_append, List.length_singleton] at h3
  rw [List.getElem?_take_of_lt (by omega), ups_yes h, List.getElem?_map, List.getElem?_range h1] at h3
  exact (Option.some.inj h3).symm

set_option maxRecDepth 100000 in
set_option maxHeartbeats 400000 in
theorem Next_yes (z a : ByteArray) (ha : a.size ≤ maxLen) (hz : z.size ≤ maxLen) (hna : isName a.data.toList = true) (hnz : isName z.data.toList = true) (m : Nat) (hm : depthN a.data.toList z.data.toList = (m : Int) + 1) (hml : m < (labs a.data.toList).1.length) (w : World) :
    Calls Try.prog 26 #[.string z, .string a] w fun e w' => e = .returned (.tuple #[.string ⟨(a.data.toList.drop (pos (labs a.data.toList).1 m)).toArray⟩, .int .i64 0]) ∧ Below w.heap.size w w' := by
  obtain ⟨n, hn⟩ : ∃ n : Nat, 8 ≤ n := ⟨8, by omega⟩
  refine (callsIn_wide (n := n)).1 ?_
  have h1n : 1 ≤ n := by omega
  have hca : chkN a.data.toList = 0 := by unfold chkN; rw [if_pos hna]
  have hcz : chkN z.data.toList = 0 := by unfold chkN; rw [if_pos hnz]
  have h255 : (m : Int) + 1 ≤ 1000 := by
    have h1 := ((isName_iff _).1 hna).1
    have h2 := labs_length_le a.data.toList
    omega
  have hge : ¬ (m : Int) + 1 < 1 := by omega
  have HD := Lib.hid (fun W => Depth_any a z ha hz W)
  rw [hm] at HD
  have HM := Lib.hid (And.intro hna hml)
  clear hm hml hna hnz hn
  refine callsIn_of_wp_marks Try.func26 rfl trivial ?_ rfl
  simp only [Try.ntmps26, List.size_toArray, List.length_cons, List.length_nil, Nat.reduceAdd, Nat.reduceSub, Array.replicate_succ, Array.replicate_zero, List.push_toArray, List.append_toArray, List.nil_append, List.cons_append]
  gi_wp2_with (first
    | (refine ⟨trivial, ?_⟩; gi_at_call 22; refine (callsIn_wide.2 (Check_any _ (by assumption) _)).mono ?_; rintro e w1 ⟨rfl, hb1⟩)
    | (refine ⟨trivial, ?_⟩; gi_at_call 23; refine (callsIn_wide.2 (HD.out _)).mono ?_; rintro e w2 ⟨rfl, hb2⟩)
    | (refine ⟨trivial, ?_⟩; gi_at_call 47; refine (Up_in _ a _).mono ?_; rintro e w' ⟨rfl, rfl⟩))
  obtain ⟨W1, hW1⟩ : ∃ W1, (w.alloc (.cells #[.string ⟨#[]⟩] 9)).alloc (.cells #[.int .i64 0] 24) = W1 := ⟨_, rfl⟩
  have hz1 : W1.heap.size = w.heap.size + 2 := by rw [← hW1]; simp
  have hbA : Below w.heap.size w W1 := by rw [← hW1]; exact ((Below.refl _ _).alloc (Nat.le_refl _) _).alloc (by simp) _
  have r0 : Blk W1 w.heap.size 9 #[.string ⟨#[]⟩] := by rw [← hW1]; exact (Blk.new w _ _).alloc _
  have r1 : Blk W1 (w.heap.size + 1) 24 #[.int .i64 0] := by
    rw [← hW1]
    have := Blk.new (w.alloc (.cells #[.string ⟨#[]⟩] 9)) 24 #[.int .i64 0]
    rw [World.size_alloc] at this
    exact this
  rename Below _ (World.alloc _ _) _ => hbC
  rw [hW1] at hbC
  have hbB : Below W1.heap.size W1 w2 := by
    exact (hbC.trans (hb1.mono hbC.size)).trans (hb2.mono (hbC.trans (hb1.mono hbC.size)).size)
  have hbW2 : Below w.heap.size w w2 := hbA.trans (hbB.mono hbA.size)
  have r0 := r0.below hbB (by omega)
  have r1 := r1.below hbB (by omega)
  obtain ⟨W0, hW0⟩ : ∃ W0, (w2.alloc (.cells #[.int .i64 ((m : Int) + 1)] 3)).alloc (.cells #[.string a] 9) = W0 := ⟨_, rfl⟩
  have hsz0 : W0.heap.size = w2.heap.size + 2 := by rw [← hW0]; simp
  have hb20 : Below w2.heap.size w2 W0 := by rw [← hW0]; exact ((Below.refl _ _).alloc (Nat.le_refl _) _).alloc (by simp) _
  have hz2 := hbB.size
  have hbW : Below w.heap.size w W0 := hbW2.trans (hb20.mono hbW2.size)
  have s0 : Blk W0 w.heap.size 9 #[.string ⟨#[]⟩] := r0.below hb20 (by omega)
  have s1 : Blk W0 (w.heap.size + 1) 24 #[.int .i64 0] := r1.below hb20 (by omega)
  have g0 : Blk W0 w2.heap.size 3 #[.int .i64 (((m + 1 : Nat) : Int))] := by rw [← hW0]; exact (Blk.new w2 _ _).alloc _
  have e0 : Blk W0 (w2.heap.size + 1) 9 #[.string a] := by
    rw [← hW0]
    have := Blk.new (w2.alloc (.cells #[.int .i64 ((m : Int) + 1)] 3)) 9 #[.string a]
    rw [World.size_alloc] at this
    exact this
  rw [hW0]
  clear hW0 hW1 hb1 hb2 hbC r0 r1
  apply rangeN (gf := 72) (lb := #[.pointer (some ⟨w2.heap.size + 1, 0, none⟩)]) rfl (enters_of Try.func72 (by kernel_rfl) rfl)
    (Up1_N (w2.heap.size + 1) a ha W0 e0) (by omega) (Below.refl _ _) (fun _ => rfl)
    (fun _ pre V => ∃ g : Nat, (Blk V w.heap.size 9 #[.string ⟨#[]⟩] ∧ Blk V (w.heap.size + 1) 24 #[.int .i64 0] ∧ Blk V w2.heap.size 3 #[.int .i64 (g : Int)]) ∧ (pre.length + g = m + 1 ∧ 1 ≤ g) ∧ Below w.heap.size w V)
    (fun _ c _ V => c = .ret ∧ (Blk V w.heap.size 9 #[.string ⟨(a.data.toList.drop (pos (labs a.data.toList).1 m)).toArray⟩] ∧ Blk V (w.heap.size + 1) 24 #[.int .i64 0]) ∧ Below w.heap.size w V)
    ?hI ?hIx ?h0
  case hI =>
    rintro X pre A A' ⟨g, ⟨h1, h2, h3⟩, h4, h5⟩ ho
    exact ⟨g, ⟨ho.blk h1 (by omega), ho.blk h2 (by omega), ho.blk h3 (by omega)⟩, h4, ho.below h5 (Nat.le_refl _) (by omega)⟩
  case hIx =>
    rintro X c pre A A' ⟨h0, ⟨h1, h2⟩, h4⟩ ho
    exact ⟨h0, ⟨ho.blk h1 (by omega), ho.blk h2 (by omega)⟩, ho.below h4 (Nat.le_refl _) (by omega)⟩
  case h0 =>
    intro X V hV hX
    exact ⟨m + 1, ⟨(hV.block _ (by omega)).trans s0, (hV.block _ (by omega)).trans s1, (hV.block _ (by omega)).trans g0⟩, ⟨by simp, by omega⟩, hbW.trans (hV.mono hbW.size)⟩
  case hassign =>
    intro l x V K hK
    gi_wp2
    exact hK
  case hbody =>
    rintro l X pre x V hV ⟨g, ⟨h1, h2, h3⟩, ⟨h4, h6⟩, h5⟩ hpre
    obtain ⟨rfl, _⟩ := ups_get HM.out.1 hpre
    have c0 := h1.cell 0
    have c1 := h2.cell 0
    have c2 : V.cell? ⟨w2.heap.size, 0, none⟩ = some (.int .i64 (g : Int)) := h3.cell 0
    have f0 := h1.frozen 0
    have f1 := h2.frozen 0
    have f2 := h3.frozen 0
    have HV := Lib.hid (And.intro h1 (And.intro h2 (And.intro h3 (And.intro h5 (And.intro hsz0 (And.intro hV (And.intro hz2 hz1)))))))
    have HL := Lib.hid (And.intro h4 h6)
    by_cases hg : g = 1
    · subst hg
      have c3 : V.cell? ⟨w2.heap.size, 0, none⟩ = some (.int .i64 1) := c2
      have hpl : pre.length = m := by omega
      rw [hpl]
      clear c2 h1 h2 h3 h4 h5 h6 hsz0 hV hz2 hz1 hpre hpl hbW hb20 s0 s1 g0 e0 hbW2 hbB hbA
      gi_wp2_with (fail)
      obtain ⟨h1, h2, h3, h5, hsz0, hV, hz2, hz1⟩ := HV.out
      refine ⟨Keep.trans (.cell _ (by show w.heap.size < _; omega) (by show w.heap.size ≠ _; omega)) (.cell _ (by show w.heap.size + 1 < _; omega) (by show w.heap.size + 1 ≠ _; omega)), rfl, ⟨?_, ?_⟩, ?_⟩
      · exact (h1.set_ 0 _).far (p := ⟨w.heap.size + 1, 0, none⟩) (show w.heap.size ≠ w.heap.size + 1 by omega) _
      · exact (h2.far (p := ⟨w.heap.size, 0, none⟩) (show w.heap.size + 1 ≠ w.heap.size by omega) _).set_ 0 _
      · exact (h5.setCell (p := ⟨w.heap.size, 0, none⟩) (Nat.le_refl _) _).setCell (p := ⟨w.heap.size + 1, 0, none⟩) (by show w.heap.size ≤ w.heap.size + 1; omega) _
    · have ht : ((g : Int) == 1) = false := by simp only [beq_eq_false_iff_ne]; omega
      have hw : wrap64 ((g : Int) - 1) = (g : Int) - 1 := by unfold wrap64; omega
      clear h1 h2 h3 h4 h5 h6 hsz0 hV hz2 hz1 hpre hbW hb20 s0 s1 g0 e0 hbW2 hbB hbA
      have hg1 : ¬ g = 1 := hg
      clear hg
      gi_wp2_with (fail)
      clear hw
      obtain ⟨h1, h2, h3, h5, hsz0, hV, hz2, hz1⟩ := HV.out
      obtain ⟨h4, h6⟩ := HL.out
      have e1 : (g : Int) - 1 = ((g - 1 : Nat) : Int) := by omega
      rw [e1]
      refine ⟨.cell _ (by show w2.heap.size < _; omega) (by show w2.heap.size ≠ _; omega), g - 1, ⟨?_, ?_, ?_⟩, ⟨by simp; omega, by omega⟩, ?_⟩
      · exact h1.far (p := ⟨w2.heap.size, 0, none⟩) (show w.heap.size ≠ w2.heap.size by omega) _
      · exact h2.far (p := ⟨w2.heap.size, 0, none⟩) (show w.heap.size + 1 ≠ w2.heap.size by omega) _
      · exact h3.set_ 0 _
      · exact h5.setCell (p := ⟨w2.heap.size, 0, none⟩) (by show w.heap.size ≤ w2.heap.size; omega) _
  case hdone =>
    rintro D X V hD hD2 ⟨g, _, ⟨h4, h6⟩, _⟩ hK
    exfalso
    rw [ups_length HM.out.1] at h4
    have := HM.out.2
    omega
  case hstop =>
    rintro D X c pre V hD hD2 hpre ⟨rfl, ⟨h1, h2⟩, h5⟩ hK
    have c0 := h1.cell 0
    have c1 := h2.cell 0
    have d0 : (V.putObj D (.deferred none)).cell? ⟨w.heap.size, 0, none⟩ = some (.string ⟨(a.data.toList.drop (pos (labs a.data.toList).1 m)).toArray⟩) := (World.cell?_of_block (World.putObj_heap_other (show w.heap.size ≠ D by omega))).trans c0
    have d1 : (V.putObj D (.deferred none)).cell? ⟨w.heap.size + 1, 0, none⟩ = some (.int .i64 0) := (World.cell?_of_block (World.putObj_heap_other (show w.heap.size + 1 ≠ D by omega))).trans c1
    have HB : Hid (Below w.heap.size w (V.putObj D (.deferred none))) := Lib.hid (h5.trans (belowK_b (w := w) (Nat.le_refl _) V D _ _ (by omega) hK rfl rfl))
    clear hbW hb20 s0 s1 g0 e0 hbW2 hbB hbA
    gi_wp2_with (fail)
    exact ⟨by simp, .inl ⟨_, _, rfl, run_takeDeferred hK, .tuple #[.string ⟨(a.data.toList.drop (pos (labs a.data.toList).1 m)).toArray⟩, .int .i64 0], by simp [results, Try.results26, go_sem, d0, d1], rfl, HB.out⟩⟩
end Go.Proofs.Ytjhhhkhcnohmiaa

namespace Go.Proofs.Ytjhhhkhcnohmiaa
open Go.RowKit Go.Shelf
attribute [local go_sem] Oper.semAt_some

/-- The two result cells at the beginning. -/
def res2 (w : World) : World := (w.alloc (.cells #[.string ⟨#[]⟩] 9)).alloc (.cells #[.int .i64 0] 24)
theorem res2_is (w : World) : (w.alloc (.cells #[.string ⟨#[]⟩] 9)).alloc (.cells #[.int .i64 0] 24) = res2 w := rfl
theorem res2_size (w : World) : (res2 w).heap.size = w.heap.size + 2 := by simp [res2]
theorem res2_below (w : World) : Below w.heap.size w (res2 w) := ((Below.refl _ _).alloc (Nat.le_refl _) _).alloc (by simp) _
theorem res2_0 (w : World) : Blk (res2 w) w.heap.size 9 #[.string ⟨#[]⟩] := (Blk.new w _ _).alloc _
theorem res2_1 (w : World) : Blk (res2 w) (w.heap.size + 1) 24 #[.int .i64 0] := by
  have := Blk.new (w.alloc (.cells #[.string ⟨#[]⟩] 9)) 24 #[.int .i64 0]
  rw [World.size_alloc] at this
  exact this
/-- Both results set. -/
theorem res2_set {w V : World} (h0 : Blk V w.heap.size 9 #[.string ⟨#[]⟩]) (h1 : Blk V (w.heap.size + 1) 24 #[.int .i64 0]) (s : ByteArray) (e : Int) :
    Blk ((V.setCell ⟨w.heap.size, 0, none⟩ (.string s)).setCell ⟨w.heap.size + 1, 0, none⟩ (.int .i64 e)) w.heap.size 9 #[.string s] ∧
    Blk ((V.setCell ⟨w.heap.size, 0, none⟩ (.string s)).setCell ⟨w.heap.size + 1, 0, none⟩ (.int .i64 e)) (w.heap.size + 1) 24 #[.int .i64 e] := by
  refine ⟨?_, ?_⟩
  · exact (h0.set_ 0 (.string s)).far (p := ⟨w.heap.size + 1, 0, none⟩) (show w.heap.size ≠ w.heap.size + 1 by omega) _
  · exact (h1.far (p := ⟨w.heap.size, 0, none⟩) (show w.heap.size + 1 ≠ w.heap.size by omega) _).set_ 0 _

set_option maxRecDepth 100000 in
set_option maxHeartbeats 400000 in
theorem Next_none (z a : ByteArray) (ha : a.size ≤ maxLen) (hz : z.size ≤ maxLen) (hna : isName a.data.toList = true) (hnz : isName z.data.toList = true) (hm : depthN a.data.toList z.data.toList < 1) (w : World) :
    Calls Try.prog 26 #[.string z, .string a] w fun e w' => e = .returned (.tuple #[.string ⟨#[]⟩, .int .i64 3]) ∧ Below w.heap.size w w' := by
  obtain ⟨n, hn⟩ : ∃ n : Nat, 8 ≤ n := ⟨8, by omega⟩
  refine (callsIn_wide (n := n)).1 ?_
  have h1n : 1 ≤ n := by omega
  have hca := fun W => Check_any a ha W
  have hcz := fun W => Check_any z hz W
  rw [show chkN a.data.toList = 0 by unfold chkN; rw [if_pos hna]] at hca
  rw [show chkN z.data.toList = 0 by unfold chkN; rw [if_pos hnz]] at hcz
  have HCA := Lib.hid hca
  have HCZ := Lib.hid hcz
  have HD := Lib.hid (fun W => Depth_any a z ha hz W)
  generalize depthN a.data.toList z.data.toList = d at hm HD
  clear hna hnz hn hca hcz ha hz
  refine callsIn_of_wp_marks Try.func26 rfl trivial ?_ rfl
  simp only [Try.ntmps26, List.size_toArray, List.length_cons, List.length_nil, Nat.reduceAdd, Nat.reduceSub, Array.replicate_succ, Array.replicate_zero, List.push_toArray, List.append_toArray, List.nil_append, List.cons_append]
  gi_wp2_with (fail)
  rw [res2_is]
  refine ⟨trivial, ?_⟩
  refine (callsIn_wide.2 (HCZ.out _)).mono ?_
  rintro e w1 ⟨rfl, hb1⟩
  have B1 := Lib.hid hb1
  clear hb1
  gi_wp2_with (fail)
  refine ⟨trivial, ?_⟩
  refine (callsIn_wide.2 (HCA.out _)).mono ?_
  rintro e w2 ⟨rfl, hb2⟩
  have B2 := Lib.hid (B1.out.trans (hb2.mono B1.out.size))
  clear hb2 B1
  gi_wp2_with (fail)
  refine ⟨trivial, ?_⟩
  refine (callsIn_wide.2 (HD.out _)).mono ?_
  rintro e w3 ⟨rfl, hb3⟩
  have hb := B2.out.trans (hb3.mono B2.out.size)
  have hsz := hb.size
  rw [res2_size] at hsz
  have r0 := (res2_0 w).below hb (by rw [res2_size]; omega)
  have r1 := (res2_1 w).below hb (by rw [res2_size]; omega)
  have B3 := Lib.hid ((res2_below w).trans (hb.mono (res2_below w).size))
  have c0 := r0.cell 0
  have c1 := r1.cell 0
  have f0 := r0.frozen 0
  have f1 := r1.frozen 0
  have R := Lib.hid (And.intro r0 r1)
  have l0 : w.heap.size < w3.heap.size := by omega
  have l1 : w.heap.size + 1 < w3.heap.size := by omega
  clear hb3 B2 hb r0 r1 hsz
  gi_wp2_with (fail)
  obtain ⟨s0, s1⟩ := res2_set R.out.1 R.out.2 ⟨#[]⟩ 3
  have d0 : World.cell? _ _ = some (.string ⟨#[]⟩) := (s0.alloc (.cells #[.int .i64 d] 3)).cell 0
  have d1 : World.cell? _ _ = some (.int .i64 3) := (s1.alloc (.cells #[.int .i64 d] 3)).cell 0
  exact ⟨.tuple #[.string ⟨#[]⟩, .int .i64 3], by simp [results, Try.results26, go_sem, d0, d1], rfl, ((B3.out.setCell (p := ⟨w.heap.size, 0, none⟩) (Nat.le_refl _) _).setCell (p := ⟨w.heap.size + 1, 0, none⟩) (by show w.heap.size ≤ w.heap.size + 1; omega) _).alloc (by simp [World.setCell]; omega) _⟩
end Go.Proofs.Ytjhhhkhcnohmiaa
