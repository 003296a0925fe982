/- The walk of package walk's Next where it answers with an error. -/
import Derived.Test.YtjhhhkhcnohmiaaNext
namespace Go.Proofs.Ytjhhhkhcnohmiaa
open Go.RowKit Go.Shelf
attribute [local go_sem] Oper.semAt_some

/-- The two result cells at the beginning. -/
def res2 (w : World) : World := (w.alloc (.cells #[.string ⟨#[]⟩] 9)).alloc (.cells #[.int .i64 0] 24)
theorem res2_is (w : World) : (w.alloc (.cells #[.string ⟨#[]⟩] 9)).alloc (.cells #[.int .i64 0] 24) = res2 w := rfl
theorem res2_size (w : World) : (res2 w).heap.size = w.heap.size + 2 := by simp [res2]
theorem res2_below (w : World) : Below w.heap.size w (res2 w) := ((Below.refl _ _).alloc (Nat.le_refl _) _).alloc (by simp) _
theorem res2_0 (w : World) : Blk (res2 w) w.heap.size 9 #[.string ⟨#[]⟩] := (Blk.new w _ _).alloc _
theorem res2_1 (w : World) : Blk (res2 w) (w.heap.size + 1) 24 #[.int .i64 0] := by
  have := Blk.new (w.alloc (.cells #[.string ⟨#[]⟩] 9)) 24 #[.int .i64 0]
  rw [World.size_alloc] at this
  exact this
/-- Both results set. -/
theorem res2_set {w V : World} (h0 : Blk V w.heap.size 9 #[.string ⟨#[]⟩]) (h1 : Blk V (w.heap.size + 1) 24 #[.int .i64 0]) (s : ByteArray) (e : Int) :
    Blk ((V.setCell ⟨w.heap.size, 0, none⟩ (.string s)).setCell ⟨w.heap.size + 1, 0, none⟩ (.int .i64 e)) w.heap.size 9 #[.string s] ∧
    Blk ((V.setCell ⟨w.heap.size, 0, none⟩ (.string s)).setCell ⟨w.heap.size + 1, 0, none⟩ (.int .i64 e)) (w.heap.size + 1) 24 #[.int .i64 e] := by
  refine ⟨?_, ?_⟩
  · exact (h0.set_ 0 (.string s)).far (p := ⟨w.heap.size + 1, 0, none⟩) (show w.heap.size ≠ w.heap.size + 1 by omega) _
  · exact (h1.far (p := ⟨w.heap.size, 0, none⟩) (show w.heap.size + 1 ≠ w.heap.size by omega) _).set_ 0 _

set_option maxRecDepth 100000 in
set_option maxHeartbeats 400000 in
theorem Next_none (z a : ByteArray) (ha : a.size ≤ maxLen) (hz : z.size ≤ maxLen) (hna : isName a.data.toList = true) (hnz : isName z.data.toList = true) (hm : depthN a.data.toList z.data.toList < 1) (w : World) :
    Calls Try.prog 26 #[.string z, .string a] w fun e w' => e = .returned (.tuple #[.string ⟨#[]⟩, .int .i64 3]) ∧ Below w.heap.size w w' := by
  obtain ⟨n, hn⟩ : ∃ n : Nat, 8 ≤ n := ⟨8, by omega⟩
  refine (callsIn_wide (n := n)).1 ?_
  have h1n : 1 ≤ n := by omega
  have hca := fun W => Check_any a ha W
  have hcz := fun W => Check_any z hz W
  rw [show chkN a.data.toList = 0 by unfold chkN; rw [if_pos hna]] at hca
  rw [show chkN z.data.toList = 0 by unfold chkN; rw [if_pos hnz]] at hcz
  have HCA := Lib.hid hca
  have HCZ := Lib.hid hcz
  have HD := Lib.hid (fun W => Depth_any a z ha hz W)
  generalize depthN a.data.toList z.data.toList = d at hm HD
  clear hna hnz hn hca hcz ha hz
  refine callsIn_of_wp_marks Try.func26 rfl trivial ?_ rfl
  simp only [Try.ntmps26, List.size_toArray, List.length_cons, List.length_nil, Nat.reduceAdd, Nat.reduceSub, Array.replicate_succ, Array.replicate_zero, List.push_toArray, List.append_toArray, List.nil_append, List.cons_append]
  gi_wp2_with (fail)
  rw [res2_is]
  refine ⟨trivial, ?_⟩
  refine (callsIn_wide.2 (HCZ.out _)).mono ?_
  rintro e w1 ⟨rfl, hb1⟩
  have B1 := Lib.hid hb1
  clear hb1
  gi_wp2_with (fail)
  refine ⟨trivial, ?_⟩
  refine (callsIn_wide.2 (HCA.out _)).mono ?_
  rintro e w2 ⟨rfl, hb2⟩
  have B2 := Lib.hid (B1.out.trans (hb2.mono B1.out.size))
  clear hb2 B1
  gi_wp2_with (fail)
  refine ⟨trivial, ?_⟩
  refine (callsIn_wide.2 (HD.out _)).mono ?_
  rintro e w3 ⟨rfl, hb3⟩
  have hb := B2.out.trans (hb3.mono B2.out.size)
  have hsz := hb.size
  rw [res2_size] at hsz
  have r0 := (res2_0 w).below hb (by rw [res2_size]; omega)
  have r1 := (res2_1 w).below hb (by rw [res2_size]; omega)
  have B3 := Lib.hid ((res2_below w).trans (hb.mono (res2_below w).size))
  have c0 := r0.cell 0
  have c1 := r1.cell 0
  have f0 := r0.frozen 0
  have f1 := r1.frozen 0
  have R := Lib.hid (And.intro r0 r1)
  have l0 : w.heap.size < w3.heap.size := by omega
  have l1 : w.heap.size + 1 < w3.heap.size := by omega
  clear hb3 B2 hb r0 r1 hsz
  gi_wp2_with (fail)
  obtain ⟨s0, s1⟩ := res2_set R.out.1 R.out.2 ⟨#[]⟩ 3
  have d0 : World.cell? _ _ = some (.string ⟨#[]⟩) := (s0.alloc (.cells #[.int .i64 d] 3)).cell 0
  have d1 : World.cell? _ _ = some (.int .i64 3) := (s1.alloc (.cells #[.int .i64 d] 3)).cell 0
  exact ⟨.tuple #[.string ⟨#[]⟩, .int .i64 3], by simp [results, Try.results26, go_sem, d0, d1], rfl, ((B3.out.setCell (p := ⟨w.heap.size, 0, none⟩) (Nat.le_refl _) _).setCell (p := ⟨w.heap.size + 1, 0, none⟩) (by show w.heap.size ≤ w.heap.size + 1; omega) _).alloc (by simp [World.setCell]; omega) _⟩
end Go.Proofs.Ytjhhhkhcnohmiaa
