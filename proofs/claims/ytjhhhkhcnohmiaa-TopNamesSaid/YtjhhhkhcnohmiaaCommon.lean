/- The walk of package walk's Common. -/
import Derived.Test.YtjhhhkhcnohmiaaNext
import Derived.Test.YtjhhhkhcnohmiaaTree
namespace Go.Proofs.Ytjhhhkhcnohmiaa
open Go.RowKit Go.Shelf
attribute [local go_sem] Oper.semAt_some

/-- The first name above a (or a) within which b lies. -/
def comB (a b : Bs) : Bs := ((upsL a).find? (fun n => withinB b n)).getD []
theorem ups_mem {a : Bs} (h : isName a = true) {n : Bs} : n ∈ upsL a ↔ ∃ k, k ≤ (labs a).1.length ∧ n = a.drop (pos (labs a).1 k) := by
  rw [ups_yes h]
  simp only [List.mem_map, List.mem_range]
  constructor
  · rintro ⟨k, h1, rfl⟩; exact ⟨k, by omega, rfl⟩
  · rintro ⟨k, h1, rfl⟩; exact ⟨k, by omega, rfl⟩
theorem root_ups {a : Bs} (h : isName a = true) : [0] ∈ upsL a :=
  (ups_mem h).2 ⟨_, Nat.le_refl _, ((drop_root h _).2 (Nat.le_refl _)).symm⟩
theorem com_hit {a b : Bs} {pre : List Bs} {x : Bs} (hp : pre ++ [x] <+: upsL a) (h1 : ∀ n ∈ pre, withinB b n = false) (h2 : withinB b x = true) : comB a b = x := by
  obtain ⟨r, hr⟩ := hp
  unfold comB
  rw [← hr, List.append_assoc, List.find?_append, List.find?_eq_none.2 (by intro n hn; simp [h1 n hn])]
  simp [h2]

set_option maxRecDepth 100000 in
set_option maxHeartbeats 1000000 in
theorem Common_yes (a b : ByteArray) (ha : a.size ≤ maxLen) (hb : b.size ≤ maxLen) (hna : isName a.data.toList = true) (hnb : isName b.data.toList = true) (w : World) :
    Calls Try.prog 33 #[.string a, .string b] w fun e w' => e = .returned (.tuple #[.string ⟨(comB a.data.toList b.data.toList).toArray⟩, .int .i64 0]) ∧ Below w.heap.size w w' := by
  obtain ⟨z, hz⟩ : ∃ z : ByteArray, (⟨(comB a.data.toList b.data.toList).toArray⟩ : ByteArray) = z := ⟨_, rfl⟩
  rw [hz]
  have HZZ := Lib.hid hz
  clear hz
  obtain ⟨n, hn⟩ : ∃ n : Nat, 8 ≤ n := ⟨8, by omega⟩
  refine (callsIn_wide (n := n)).1 ?_
  have h1n : 1 ≤ n := by omega
  have HCA := Lib.hid (fun W => Check_any a ha W)
  have HCB := Lib.hid (fun W => Check_any b hb W)
  rw [show chkN a.data.toList = 0 from by unfold chkN; rw [if_pos hna]] at HCA
  rw [show chkN b.data.toList = 0 from by unfold chkN; rw [if_pos hnb]] at HCB
  have HM := Lib.hid (And.intro hna hnb)
  clear hna hnb
  refine callsIn_of_wp_marks Try.func33 rfl trivial ?_ rfl
  simp only [Try.ntmps33, List.size_toArray, List.length_cons, List.length_nil, Nat.reduceAdd, Nat.reduceSub, Array.replicate_succ, Array.replicate_zero, List.push_toArray, List.append_toArray, List.nil_append, List.cons_append]
  gi_wp2_with (fail)
  obtain ⟨W1, hW1⟩ : ∃ W1, ((w.alloc (.cells #[.string b] 9)).alloc (.cells #[.string ⟨#[]⟩] 9)).alloc (.cells #[.int .i64 0] 24) = W1 := ⟨_, rfl⟩
  have hz1 : W1.heap.size = w.heap.size + 3 := by rw [← hW1]; simp
  have hbA : Below w.heap.size w W1 := by rw [← hW1]; exact (((Below.refl _ _).alloc (Nat.le_refl _) _).alloc (by simp) _).alloc (by simp; omega) _
  have q0 : Blk W1 w.heap.size 9 #[.string b] := by rw [← hW1]; exact ((Blk.new w _ _).alloc _).alloc _
  have r0 : Blk W1 (w.heap.size + 1) 9 #[.string ⟨#[]⟩] := by
    rw [← hW1]
    have := (Blk.new (w.alloc (.cells #[.string b] 9)) 9 #[.string ⟨#[]⟩]).alloc (.cells #[.int .i64 0] 24)
    rw [World.size_alloc] at this
    exact this
  have r1 : Blk W1 (w.heap.size + 1 + 1) 24 #[.int .i64 0] := by
    rw [← hW1]
    have := Blk.new ((w.alloc (.cells #[.string b] 9)).alloc (.cells #[.string ⟨#[]⟩] 9)) 24 #[.int .i64 0]
    rw [World.size_alloc, World.size_alloc] at this
    exact this
  rw [hW1]
  clear hW1
  have cb := q0.cell 0
  have hl0 : w.heap.size < W1.heap.size := by omega
  gi_wp2_with (fail)
  refine ⟨trivial, ?_⟩
  refine (callsIn_wide.2 (HCA.out _)).mono ?_
  rintro e w1 ⟨rfl, hb1⟩
  have cb1 := (q0.below hb1 (by omega)).cell 0
  have B1 := Lib.hid hb1
  clear hb1 cb
  gi_wp2_with (fail)
  refine ⟨trivial, ?_⟩
  refine (callsIn_wide.2 (HCB.out _)).mono ?_
  rintro e w2 ⟨rfl, hb2⟩
  have hbB := B1.out.trans (hb2.mono B1.out.size)
  have B2 := Lib.hid hbB
  clear hb2 B1 cb1
  gi_wp2_with (fail)
  refine ⟨trivial, ?_⟩
  refine (Up_in _ a _).mono ?_
  rintro e w' ⟨rfl, rfl⟩
  gi_wp2_with (fail)
  have hbW2 : Below w.heap.size w w2 := hbA.trans (hbB.mono hbA.size)
  obtain ⟨W0, hW0⟩ : ∃ W0, w2.alloc (.cells #[.string a] 9) = W0 := ⟨_, rfl⟩
  have hsz0 : W0.heap.size = w2.heap.size + 1 := by rw [← hW0]; simp
  have hb20 : Below w2.heap.size w2 W0 := by rw [← hW0]; exact (Below.refl _ _).alloc (Nat.le_refl _) _
  have hz2 := hbB.size
  have hbW : Below w.heap.size w W0 := hbW2.trans (hb20.mono hbW2.size)
  have p0 : Blk W0 w.heap.size 9 #[.string b] := (q0.below hbB (by omega)).below hb20 (by omega)
  have s0 : Blk W0 (w.heap.size + 1) 9 #[.string ⟨#[]⟩] := (r0.below hbB (by omega)).below hb20 (by omega)
  have s1 : Blk W0 (w.heap.size + 1 + 1) 24 #[.int .i64 0] := (r1.below hbB (by omega)).below hb20 (by omega)
  have e0 : Blk W0 w2.heap.size 9 #[.string a] := by rw [← hW0]; exact Blk.new w2 _ _
  rw [hW0]
  clear hW0 r0 r1 q0
  apply rangeN (gf := 72) (lb := #[.pointer (some ⟨w2.heap.size, 0, none⟩)]) rfl (enters_of Try.func72 (by kernel_rfl) rfl)
    (Up1_N w2.heap.size a ha W0 e0) (by omega) (Below.refl _ _) (fun _ => rfl)
    (fun _ pre V => (Blk V w.heap.size 9 #[.string b] ∧ Blk V (w.heap.size + 1) 9 #[.string ⟨#[]⟩] ∧ Blk V (w.heap.size + 1 + 1) 24 #[.int .i64 0]) ∧ (∀ n ∈ pre, withinB b.data.toList n = false) ∧ Below w.heap.size w V)
    (fun _ c _ V => c = .ret ∧ (Blk V (w.heap.size + 1) 9 #[.string z] ∧ Blk V (w.heap.size + 1 + 1) 24 #[.int .i64 0]) ∧ Below w.heap.size w V)
    ?hI ?hIx ?h0
  case hI =>
    rintro X pre A A' ⟨⟨h1, h2, h3⟩, h4, h5⟩ ho
    exact ⟨⟨ho.blk h1 (by omega), ho.blk h2 (by omega), ho.blk h3 (by omega)⟩, h4, ho.below h5 (Nat.le_refl _) (by omega)⟩
  case hIx =>
    rintro X c pre A A' ⟨h0, ⟨h1, h2⟩, h4⟩ ho
    exact ⟨h0, ⟨ho.blk h1 (by omega), ho.blk h2 (by omega)⟩, ho.below h4 (Nat.le_refl _) (by omega)⟩
  case h0 =>
    intro X V hV hX
    exact ⟨⟨(hV.block _ (by omega)).trans p0, (hV.block _ (by omega)).trans s0, (hV.block _ (by omega)).trans s1⟩, (fun n hn => absurd hn List.not_mem_nil), hbW.trans (hV.mono hbW.size)⟩
  case hassign =>
    intro l x V K hK
    gi_wp2
    exact hK
  case hbody =>
    rintro l X pre x V hV ⟨⟨h1, h2, h3⟩, h4, h5⟩ hpre
    have hxs : (⟨x.toArray⟩ : ByteArray).size ≤ maxLen := by
      obtain ⟨hx, _⟩ := ups_get HM.out.1 hpre
      have h6 : x.length ≤ a.data.toList.length := by rw [hx, List.length_drop]; omega
      have h7 : a.data.toList.length = a.size := by simp
      show x.toArray.size ≤ _
      simp only [List.size_toArray]
      omega
    have HW := Lib.hid (Within_any b ⟨x.toArray⟩ hb hxs V)
    have c0 := h1.cell 0
    have HV := Lib.hid (And.intro h1 (And.intro h2 (And.intro h3 (And.intro h4 (And.intro h5 (And.intro hsz0 (And.intro hV hz2)))))))
    have HP := Lib.hid (And.intro hpre HZZ.out)
    have hl1 : w.heap.size < V.heap.size := by omega
    cases hwi : withinB b.data.toList x with
    | true =>
      rw [show (⟨x.toArray⟩ : ByteArray).data.toList = x from rfl, hwi] at HW
      have HX := Lib.hid (com_hit hpre h4 hwi)
      clear h1 h2 h3 h4 h5 hsz0 hV hz2 hpre hxs hwi hbW hb20 p0 s0 s1 e0 hbW2 hbB hbA
      gi_wp2_with (fail)
      refine ⟨trivial, fun _ => by omega, ?_⟩
      refine (CallsIn.inRound l (callsIn_wide.2 HW.out)).mono ?_
      rintro e1 w3 ⟨rfl, hb3⟩
      obtain ⟨h1, h2, h3, h4, h5, hsz0, hV, hz2⟩ := HV.out
      have k2 := h2.below hb3 (by omega)
      have k3 := h3.below hb3 (by omega)
      have c2 := k2.cell 0
      have c3 := k3.cell 0
      have f2 := k2.frozen 0
      have f3 := k3.frozen 0
      have HK := Lib.hid (And.intro k2 (And.intro k3 hb3))
      clear h1 h2 h3 h4 h5 hsz0 hV hz2 k2 k3 hb3
      gi_wp2_with (fail)
      obtain ⟨h1, h2, h3, h4, h5, hsz0, hV, hz2⟩ := HV.out
      obtain ⟨k2, k3, hb3⟩ := HK.out
      have ez : (⟨x.toArray⟩ : ByteArray) = z := by rw [← HP.out.2, HX.out]
      rw [ez]
      refine ⟨(Keep.of_below hb3).trans (Keep.trans (.cell _ (by show w.heap.size + 1 < _; omega) (by show w.heap.size + 1 ≠ _; omega)) (.cell _ (by show w.heap.size + 1 + 1 < _; omega) (by show w.heap.size + 1 + 1 ≠ _; omega))), rfl, ⟨?_, ?_⟩, ?_⟩
      · exact (k2.set_ 0 _).far (p := ⟨w.heap.size + 1 + 1, 0, none⟩) (show w.heap.size + 1 ≠ w.heap.size + 1 + 1 by omega) _
      · exact (k3.far (p := ⟨w.heap.size + 1, 0, none⟩) (show w.heap.size + 1 + 1 ≠ w.heap.size + 1 by omega) _).set_ 0 _
      · exact ((h5.trans (hb3.mono h5.size)).setCell (p := ⟨w.heap.size + 1, 0, none⟩) (by show w.heap.size ≤ w.heap.size + 1; omega) _).setCell (p := ⟨w.heap.size + 1 + 1, 0, none⟩) (by show w.heap.size ≤ w.heap.size + 1 + 1; omega) _
    | false =>
      rw [show (⟨x.toArray⟩ : ByteArray).data.toList = x from rfl, hwi] at HW
      have HX := Lib.hid hwi
      clear h1 h2 h3 h4 h5 hsz0 hV hz2 hpre hxs hwi hbW hb20 p0 s0 s1 e0 hbW2 hbB hbA
      gi_wp2_with (fail)
      refine ⟨trivial, fun _ => by omega, ?_⟩
      refine (CallsIn.inRound l (callsIn_wide.2 HW.out)).mono ?_
      rintro e1 w3 ⟨rfl, hb3⟩
      have HB3 := Lib.hid hb3
      clear hb3
      gi_wp2_with (fail)
      have hb3 := HB3.out
      obtain ⟨h1, h2, h3, h4, h5, hsz0, hV, hz2⟩ := HV.out
      refine ⟨Keep.of_below hb3, ⟨h1.below hb3 (by omega), h2.below hb3 (by omega), h3.below hb3 (by omega)⟩, ?_, h5.trans (hb3.mono h5.size)⟩
      intro n hn
      rcases List.mem_append.1 hn with h | h
      · exact h4 n h
      · rw [List.mem_singleton.1 h]; exact HX.out
  case hdone =>
    rintro D X V hD hD2 ⟨_, h4, _⟩ hK
    exfalso
    have h6 := h4 _ (root_ups HM.out.1)
    rw [within_root HM.out.2] at h6
    cases h6
  case hstop =>
    rintro D X c pre V hD hD2 hpre ⟨rfl, ⟨h1, h2⟩, h5⟩ hK
    have c0 := h1.cell 0
    have c1 := h2.cell 0
    have d0 : (V.putObj D (.deferred none)).cell? ⟨w.heap.size + 1, 0, none⟩ = some (.string z) := (World.cell?_of_block (World.putObj_heap_other (show w.heap.size + 1 ≠ D by omega))).trans c0
    have d1 : (V.putObj D (.deferred none)).cell? ⟨w.heap.size + 1 + 1, 0, none⟩ = some (.int .i64 0) := (World.cell?_of_block (World.putObj_heap_other (show w.heap.size + 1 + 1 ≠ D by omega))).trans c1
    have HB : Hid (Below w.heap.size w (V.putObj D (.deferred none))) := Lib.hid (h5.trans (belowK_b (w := w) (Nat.le_refl _) V D _ _ (by omega) hK rfl rfl))
    clear hbW hb20 p0 s0 s1 e0 hbW2 hbB hbA
    gi_wp2_with (fail)
    exact ⟨by simp, .inl ⟨_, _, rfl, run_takeDeferred hK, .tuple #[.string z, .int .i64 0], by simp [results, Try.results33, go_sem, d0, d1], rfl, HB.out⟩⟩

def res3 (b : ByteArray) (w : World) : World := ((w.alloc (.cells #[.string b] 9)).alloc (.cells #[.string ⟨#[]⟩] 9)).alloc (.cells #[.int .i64 0] 24)
theorem res3_is (b : ByteArray) (w : World) : ((w.alloc (.cells #[.string b] 9)).alloc (.cells #[.string ⟨#[]⟩] 9)).alloc (.cells #[.int .i64 0] 24) = res3 b w := rfl
theorem res3_size (b : ByteArray) (w : World) : (res3 b w).heap.size = w.heap.size + 3 := by simp [res3]
theorem res3_below (b : ByteArray) (w : World) : Below w.heap.size w (res3 b w) := (((Below.refl _ _).alloc (Nat.le_refl _) _).alloc (by simp) _).alloc (by simp; omega) _
theorem res3_b (b : ByteArray) (w : World) : Blk (res3 b w) w.heap.size 9 #[.string b] := ((Blk.new w _ _).alloc _).alloc _
theorem res3_0 (b : ByteArray) (w : World) : Blk (res3 b w) (w.heap.size + 1) 9 #[.string ⟨#[]⟩] := by
  have := (Blk.new (w.alloc (.cells #[.string b] 9)) 9 #[.string ⟨#[]⟩]).alloc (.cells #[.int .i64 0] 24)
  rw [World.size_alloc] at this
  exact this
theorem res3_1 (b : ByteArray) (w : World) : Blk (res3 b w) (w.heap.size + 1 + 1) 24 #[.int .i64 0] := by
  have := Blk.new ((w.alloc (.cells #[.string b] 9)).alloc (.cells #[.string ⟨#[]⟩] 9)) 24 #[.int .i64 0]
  rw [World.size_alloc, World.size_alloc] at this
  exact this
theorem res3_set {w V : World} (h0 : Blk V (w.heap.size + 1) 9 #[.string ⟨#[]⟩]) (h1 : Blk V (w.heap.size + 1 + 1) 24 #[.int .i64 0]) (s : ByteArray) (e : Int) :
    Blk ((V.setCell ⟨w.heap.size + 1, 0, none⟩ (.string s)).setCell ⟨w.heap.size + 1 + 1, 0, none⟩ (.int .i64 e)) (w.heap.size + 1) 9 #[.string s] ∧
    Blk ((V.setCell ⟨w.heap.size + 1, 0, none⟩ (.string s)).setCell ⟨w.heap.size + 1 + 1, 0, none⟩ (.int .i64 e)) (w.heap.size + 1 + 1) 24 #[.int .i64 e] :=
  ⟨(h0.set_ 0 _).far (p := ⟨w.heap.size + 1 + 1, 0, none⟩) (show w.heap.size + 1 ≠ w.heap.size + 1 + 1 by omega) _,
   (h1.far (p := ⟨w.heap.size + 1, 0, none⟩) (show w.heap.size + 1 + 1 ≠ w.heap.size + 1 by omega) _).set_ 0 _⟩

set_option maxRecDepth 100000 in
set_option maxHeartbeats 1000000 in
theorem Common_no (a b : ByteArray) (ha : a.size ≤ maxLen) (hb : b.size ≤ maxLen) (hn : (isName a.data.toList && isName b.data.toList) = false) (w : World) :
    Calls Try.prog 33 #[.string a, .string b] w fun e w' => e = .returned (.tuple #[.string ⟨#[]⟩, .int .i64 2]) ∧ Below w.heap.size w w' := by
  have HCA := Lib.hid (fun W => Check_any a ha W)
  have HCB := Lib.hid (fun W => Check_any b hb W)
  obtain ⟨n, hn'⟩ : ∃ n : Nat, 8 ≤ n := ⟨8, by omega⟩
  refine (callsIn_wide (n := n)).1 ?_
  have h1n : 1 ≤ n := by omega
  clear hn'
  refine callsIn_of_wp_marks Try.func33 rfl trivial ?_ rfl
  simp only [Try.ntmps33, List.size_toArray, List.length_cons, List.length_nil, Nat.reduceAdd, Nat.reduceSub, Array.replicate_succ, Array.replicate_zero, List.push_toArray, List.append_toArray, List.nil_append, List.cons_append]
  gi_wp2_with (fail)
  rw [res3_is]
  rcases chk_cases a.data.toList with ⟨ha1, ha2⟩ | ⟨ha1, ha2⟩
  · rcases chk_cases b.data.toList with ⟨hb1, hb2⟩ | ⟨hb1, hb2⟩
    · rw [ha1, hb1] at hn; cases hn
    rw [ha2] at HCA
    rw [hb2] at HCB
    have cb := (res3_b b w).cell 0
    have hl := res3_size b w
    have hl0 : w.heap.size < (res3 b w).heap.size := by omega
    have HL := Lib.hid hl
    clear ha1 ha2 hb1 hb2 hn hl
    refine ⟨trivial, ?_⟩
    refine (callsIn_wide.2 (HCA.out _)).mono ?_
    rintro e w1 ⟨rfl, hb1⟩
    have cb1 := ((res3_b b w).below hb1 (by omega)).cell 0
    have B1 := Lib.hid hb1
    clear hb1 cb
    gi_wp2_with (fail)
    refine ⟨trivial, ?_⟩
    refine (callsIn_wide.2 (HCB.out _)).mono ?_
    rintro e w2 ⟨rfl, hb2⟩
    have hbB := B1.out.trans (hb2.mono B1.out.size)
    have r0 := (res3_0 b w).below hbB (by have := HL.out; omega)
    have r1 := (res3_1 b w).below hbB (by have := HL.out; omega)
    have B3 := Lib.hid ((res3_below b w).trans (hbB.mono (res3_below b w).size))
    have c0 := r0.cell 0
    have c1 := r1.cell 0
    have f0 := r0.frozen 0
    have f1 := r1.frozen 0
    have R := Lib.hid (And.intro r0 r1)
    clear hb2 B1 cb1 hbB r0 r1 hl0
    gi_wp2_with (fail)
    obtain ⟨s0, s1⟩ := res3_set R.out.1 R.out.2 ⟨#[]⟩ 2
    have d0 := s0.cell 0
    have d1 := s1.cell 0
    exact ⟨.tuple #[.string ⟨#[]⟩, .int .i64 2], by simp [results, Try.results33, go_sem, d0, d1], rfl, (B3.out.setCell (p := ⟨w.heap.size + 1, 0, none⟩) (by show w.heap.size ≤ w.heap.size + 1; omega) _).setCell (p := ⟨w.heap.size + 1 + 1, 0, none⟩) (by show w.heap.size ≤ w.heap.size + 1 + 1; omega) _⟩
  · rw [ha2] at HCA
    have HL := Lib.hid (res3_size b w)
    clear ha1 ha2 hn
    refine ⟨trivial, ?_⟩
    refine (callsIn_wide.2 (HCA.out _)).mono ?_
    rintro e w1 ⟨rfl, hb1⟩
    have r0 := (res3_0 b w).below hb1 (by have := HL.out; omega)
    have r1 := (res3_1 b w).below hb1 (by have := HL.out; omega)
    have B3 := Lib.hid ((res3_below b w).trans (hb1.mono (res3_below b w).size))
    have c0 := r0.cell 0
    have c1 := r1.cell 0
    have f0 := r0.frozen 0
    have f1 := r1.frozen 0
    have R := Lib.hid (And.intro r0 r1)
    clear hb1 r0 r1
    gi_wp2_with (fail)
    refine ⟨trivial, ?_⟩
    gi_wp2_with (fail)
    obtain ⟨s0, s1⟩ := res3_set R.out.1 R.out.2 ⟨#[]⟩ 2
    have d0 := s0.cell 0
    have d1 := s1.cell 0
    exact ⟨.tuple #[.string ⟨#[]⟩, .int .i64 2], by simp [results, Try.results33, go_sem, d0, d1], rfl, (B3.out.setCell (p := ⟨w.heap.size + 1, 0, none⟩) (by show w.heap.size ≤ w.heap.size + 1; omega) _).setCell (p := ⟨w.heap.size + 1 + 1, 0, none⟩) (by show w.heap.size ≤ w.heap.size + 1 + 1; omega) _⟩
end Go.Proofs.Ytjhhhkhcnohmiaa
