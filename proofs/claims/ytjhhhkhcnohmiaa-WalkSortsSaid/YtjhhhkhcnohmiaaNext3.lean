/- The walk of package walk's Next, for any two texts. -/
import Derived.Test.YtjhhhkhcnohmiaaNext
import Derived.Test.YtjhhhkhcnohmiaaTree
namespace Go.Proofs.Ytjhhhkhcnohmiaa
open Go.RowKit Go.Shelf
attribute [local go_sem] Oper.semAt_some

set_option maxRecDepth 100000 in
set_option maxHeartbeats 1000000 in
theorem Next_no (z a : ByteArray) (ha : a.size ≤ maxLen) (hz : z.size ≤ maxLen) (hn : (isName z.data.toList && isName a.data.toList) = false) (w : World) :
    Calls Try.prog 26 #[.string z, .string a] w fun e w' => e = .returned (.tuple #[.string ⟨#[]⟩, .int .i64 2]) ∧ Below w.heap.size w w' := by
  have HCA := Lib.hid (fun W => Check_any a ha W)
  have HCZ := Lib.hid (fun W => Check_any z hz W)
  obtain ⟨n, hn'⟩ : ∃ n : Nat, 8 ≤ n := ⟨8, by omega⟩
  refine (callsIn_wide (n := n)).1 ?_
  have h1n : 1 ≤ n := by omega
  clear hn'
  refine callsIn_of_wp_marks Try.func26 rfl trivial ?_ rfl
  simp only [Try.ntmps26, List.size_toArray, List.length_cons, List.length_nil, Nat.reduceAdd, Nat.reduceSub, Array.replicate_succ, Array.replicate_zero, List.push_toArray, List.append_toArray, List.nil_append, List.cons_append]
  gi_wp2_with (fail)
  rw [res2_is]
  rcases chk_cases z.data.toList with ⟨ha1, ha2⟩ | ⟨ha1, ha2⟩
  · rcases chk_cases a.data.toList with ⟨hb1, hb2⟩ | ⟨hb1, hb2⟩
    · rw [ha1, hb1] at hn; cases hn
    rw [ha2] at HCZ
    rw [hb2] at HCA
    have HL := Lib.hid (res2_size w)
    clear ha1 ha2 hb1 hb2 hn
    refine ⟨trivial, ?_⟩
    refine (callsIn_wide.2 (HCZ.out _)).mono ?_
    rintro e w1 ⟨rfl, hb1⟩
    have B1 := Lib.hid hb1
    clear hb1
    gi_wp2_with (fail)
    refine ⟨trivial, ?_⟩
    refine (callsIn_wide.2 (HCA.out _)).mono ?_
    rintro e w2 ⟨rfl, hb2⟩
    have hbB := B1.out.trans (hb2.mono B1.out.size)
    have r0 := (res2_0 w).below hbB (by have := HL.out; omega)
    have r1 := (res2_1 w).below hbB (by have := HL.out; omega)
    have B3 := Lib.hid ((res2_below w).trans (hbB.mono (res2_below w).size))
    have c0 := r0.cell 0
    have c1 := r1.cell 0
    have f0 := r0.frozen 0
    have f1 := r1.frozen 0
    have R := Lib.hid (And.intro r0 r1)
    clear hb2 B1 hbB r0 r1
    gi_wp2_with (fail)
    obtain ⟨s0, s1⟩ := res2_set R.out.1 R.out.2 ⟨#[]⟩ 2
    have d0 := s0.cell 0
    have d1 := s1.cell 0
    exact ⟨.tuple #[.string ⟨#[]⟩, .int .i64 2], by simp [results, Try.results26, go_sem, d0, d1], rfl, (B3.out.setCell (p := ⟨w.heap.size, 0, none⟩) (Nat.le_refl _) _).setCell (p := ⟨w.heap.size + 1, 0, none⟩) (by show w.heap.size ≤ w.heap.size + 1; omega) _⟩
  · rw [ha2] at HCZ
    have HL := Lib.hid (res2_size w)
    clear ha1 ha2 hn
    refine ⟨trivial, ?_⟩
    refine (callsIn_wide.2 (HCZ.out _)).mono ?_
    rintro e w1 ⟨rfl, hb1⟩
    have r0 := (res2_0 w).below hb1 (by have := HL.out; omega)
    have r1 := (res2_1 w).below hb1 (by have := HL.out; omega)
    have B3 := Lib.hid ((res2_below w).trans (hb1.mono (res2_below w).size))
    have c0 := r0.cell 0
    have c1 := r1.cell 0
    have f0 := r0.frozen 0
    have f1 := r1.frozen 0
    have R := Lib.hid (And.intro r0 r1)
    clear hb1 r0 r1
    gi_wp2_with (fail)
    refine ⟨trivial, ?_⟩
    gi_wp2_with (fail)
    obtain ⟨s0, s1⟩ := res2_set R.out.1 R.out.2 ⟨#[]⟩ 2
    have d0 := s0.cell 0
    have d1 := s1.cell 0
    exact ⟨.tuple #[.string ⟨#[]⟩, .int .i64 2], by simp [results, Try.results26, go_sem, d0, d1], rfl, (B3.out.setCell (p := ⟨w.heap.size, 0, none⟩) (Nat.le_refl _) _).setCell (p := ⟨w.heap.size + 1, 0, none⟩) (by show w.heap.size ≤ w.heap.size + 1; omega) _⟩

/-- What Next answers. -/
def nextP (z a : Bs) : Bs × Int :=
  if (isName z && isName a) = true then (if depthN a z < 1 then ([], 3) else (a.drop (pos (labs a).1 ((depthN a z).toNat - 1)), 0)) else ([], 2)
theorem depth_le (a z : Bs) (hn : isName a = true) : depthN a z ≤ ((labs a).1.length : Int) := by
  unfold depthN
  split
  · rw [namL_yes hn]; omega
  · omega
theorem Next_any (z a : ByteArray) (ha : a.size ≤ maxLen) (hz : z.size ≤ maxLen) (w : World) :
    Calls Try.prog 26 #[.string z, .string a] w fun e w' => e = .returned (.tuple #[.string ⟨(nextP z.data.toList a.data.toList).1.toArray⟩, .int .i64 (nextP z.data.toList a.data.toList).2]) ∧ Below w.heap.size w w' := by
  unfold nextP
  by_cases h : (isName z.data.toList && isName a.data.toList) = true
  · rw [if_pos h]
    simp only [Bool.and_eq_true] at h
    by_cases hd : depthN a.data.toList z.data.toList < 1
    · rw [if_pos hd]
      exact Next_none z a ha hz h.2 h.1 hd w
    · rw [if_neg hd]
      have := depth_le a.data.toList z.data.toList h.2
      exact Next_yes z a ha hz h.2 h.1 ((depthN a.data.toList z.data.toList).toNat - 1) (by omega) (by omega) w
  · rw [if_neg h]
    exact Next_no z a ha hz (by simpa using h) w
end Go.Proofs.Ytjhhhkhcnohmiaa
