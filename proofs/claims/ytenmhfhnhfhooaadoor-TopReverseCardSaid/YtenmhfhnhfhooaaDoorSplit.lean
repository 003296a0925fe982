/- The walk of strings.SplitSeq at a dot, as an iterator. Conditions: none. -/
import Derived.Test.YtenmhfhnhfhooaaDoorShelfD
import Derived.Test.YtenmhfhnhfhooaaDoorSplitM
import Derived.Test.YtenmhfhnhfhooaaDoorRangeT
import Derived.Test.YtenmhfhnhfhooaaDoorRet
import Derived.Test.YtenmhfhnhfhooaaDoorChecked
import Derived.Shelf.Strings.Search3
import Derived.RangeFuncNested
import Derived.RangeFuncBound
import Derived.RangeFuncCalls
import Derived.RangeFuncLeaves
import Derived.RangeFuncBox
import Derived.RangeFuncFrom
import Derived.Shelf.Abstract
import Derived.Shelf.RegionOpen
import Derived.Shelf.AbstractIn
import Derived.TacticsInMore
import Derived.LoopNIn
import Derived.LoopIn
import Derived.Sort.LoopGhostIn
import Derived.Sort.QuietIn
import Derived.Stop.RegionWithIn
import Derived.Deep.LoopGhost
namespace Go.Proofs.YtenmhfhnhfhooaaDoor
open Go.RowKit Go.Shelf
attribute [local go_sem] Oper.semAt_some

theorem index_dot (s : ByteArray) (w : World) : Calls Tryd.prog 46 #[.string s, .string ⟨#[46]⟩] w fun e w' => e = .returned (.int .i64 (Lib.indexByte s.data.toList 46)) ∧ w' = w := Any.strings_Index_one Tryd.indexLays s 46 w

set_option maxRecDepth 100000 in
set_option maxHeartbeats 2000000 in
theorem split1_T (B : Nat) (L : List Bs) (hL : ∀ x ∈ L, (46 : UInt8) ∉ x) (hne : L ≠ []) (hlen : ∀ k, k ≤ L.length → (Lib.join (L.drop k) [46]).length ≤ 1000000) (w : World) (hS : Blk w B 9 #[.string ⟨(Lib.join L [46]).toArray⟩]) (hP : Blk w (B + 1) 9 #[.string ⟨#[46]⟩]) (hZ : Blk w (B + 2) 3 #[.int .i64 0]) :
    SeqT Tryd.prog 44 #[.pointer (some ⟨B + 1, 0, none⟩), .pointer (some ⟨B, 0, none⟩), .pointer (some ⟨B + 2, 0, none⟩)] (fun x : Bs => #[Value.string ⟨x.toArray⟩]) B (B + 3) L w := by
  intro m l J Jx W hW hJ hJx hY h0
  obtain ⟨n, hn⟩ : ∃ n : Nat, 8 ≤ n := ⟨8, by omega⟩
  refine callsIn_wide.2 ((callsIn_wide (n := n)).1 ?_)
  have h1n : 1 ≤ n := by omega
  have hB2 : B + 2 < w.heap.size := hZ.lt
  have hws := hW.size
  have bS := hS.below hW (by omega)
  have bP := hP.below hW (by omega)
  have bZ := hZ.below hW (by omega)
  have hJ0 := h0 _ W (Below.refl _ _) rfl
  have hIx := fun s V => (callsIn_wide (n := n - 1)).2 (index_dot s V)
  have c1 : W.cell? ⟨B + 1, 0, none⟩ = some (.string ⟨#[46]⟩) := bP.cell 0
  have HX := Lib.hid (And.intro hL (And.intro hne hlen))
  have HI := Lib.hid hIx
  have HK := Lib.hid (And.intro hJ (And.intro hJx hY))
  have HN := Lib.hid (And.intro bP bZ)
  have HS0 := Lib.hid (And.intro hJ0 bS)
  have hBW : B + 2 < W.heap.size := by omega
  clear hJ0 h0 hJ hJx hY bS bZ hS hP hZ hIx hL hlen
  refine callsIn_of_wp Tryd.func44 rfl trivial ?_ rfl
  simp only [Tryd.ntmps44, List.size_toArray, List.length_cons, List.length_nil, Nat.reduceAdd, Nat.reduceSub, Array.replicate_succ, Array.replicate_zero, List.push_toArray, List.append_toArray, List.nil_append, List.cons_append]
  gi_wp2_with (fail)
  gi_loopg [7, 8] (L.length + 1) (fun g _ _ wr => ∃ k : Nat, g + k = L.length + 1 ∧ k < L.length ∧ Aside (J W.heap.size (L.take k) wr) ∧ Blk wr B 9 #[.string ⟨(Lib.join (L.drop k) [46]).toArray⟩] ∧ Blk wr (B + 1) 9 #[.string ⟨#[46]⟩] ∧ Blk wr (B + 2) 3 #[.int .i64 0] ∧ W.heap.size ≤ wr.heap.size)
  case atStart => exact ⟨0, by omega, List.length_pos_iff.2 HX.out.2.1, HS0.out.1, HS0.out.2, HN.out.1, HN.out.2, Nat.le_refl _⟩
  case round =>
    obtain ⟨k, hg, hkl, hj, hS, hP, hZ, hsz⟩ := hrel
    have c0 := hS.cell 0
    have c1 := hP.cell 0
    have c2 := hZ.cell 0
    have HB := Lib.hid (And.intro hS (And.intro hP hZ))
    clear hS hP hZ
    have hxm : (46 : UInt8) ∉ L[k] := HX.out.1 _ (List.getElem_mem hkl)
    have hpre : L.take k ++ [L[k]] = L.take (k + 1) := (List.take_succ_eq_append_getElem hkl).symm
    have hll := HX.out.2.2
    by_cases hlt : k + 1 < L.length
    · have hjd := join_drop hlt
      obtain ⟨r, hr⟩ : ∃ r, Lib.join (L.drop (k + 1)) [46] = r := ⟨_, rfl⟩
      obtain ⟨x, hx⟩ : ∃ x, L[k] = x := ⟨_, rfl⟩
      rw [hx, hr] at hjd
      rw [hx] at hxm hpre
      obtain ⟨E, hE⟩ : ∃ E : ByteArray, (⟨(x ++ 46 :: r).toArray⟩ : ByteArray) = E := ⟨_, rfl⟩
      have hEm : E.size ≤ 1000000 := by have := hll k (by omega); rw [hjd] at this; rw [← hE]; simpa [ByteArray.size] using this
      have hEz : E.size = x.length + 1 + r.length := by rw [← hE]; simp [ByteArray.size]; omega
      have hix := ix_at (r := r) hxm
      have e1 := take_add x r
      have e2 := drop_add x r
      rw [hE] at e1 e2
      rw [hjd, hE] at c0 HB
      obtain ⟨z, hz⟩ : ∃ z : Nat, x.length = z := ⟨_, rfl⟩
      rw [hz] at e1 e2 hix hEz
      rw [← hEz] at e2
      have hlist : E.data.toList = x ++ 46 :: r := by rw [← hE]
      rw [← hlist] at hix
      have hz1 : (z : Int) + 1 ≤ (E.size : Int) := by omega
      have hz2 : (E.size : Int) ≤ 1000000 := by omega
      have hid := HI.out E wr
      rw [hix] at hid
      have HD := Lib.hid hid
      have hyld := HK.out.2.2 W.heap.size _ x wr hj.out (by rw [hpre]; exact List.take_prefix _ _)
      rw [hpre] at hyld
      obtain ⟨fn, tmps, assign, body, hy, hRR⟩ := yield_deep (m := n - 1) hyld
      have hRR2 := hRR.mono (R' := fun e W' => ∃ b, e = .returned (.bool b) ∧ Hid ((b = true ∧ J W.heap.size (L.take (k + 1)) W' ∧ KeepX W.heap.size W.heap.size B (B + 3) wr W') ∨ (b = false ∧ Jx W.heap.size (L.take (k + 1)) W'))) (by
        rintro e W' (⟨rfl, h1, h2⟩ | ⟨rfl, h1, _⟩)
        · exact ⟨true, rfl, Lib.hid (.inl ⟨rfl, h1, h2⟩)⟩
        · exact ⟨false, rfl, Lib.hid (.inr ⟨rfl, h1⟩)⟩)
      have HY := Lib.hid hRR2
      have HR := Lib.hid (And.intro hr (And.intro hlt hsz))
      clear hid hix hlist hz hE hpre hx hjd hr hxm hEz hEm hyld hRR hRR2 hlt hll hsz
      gi_wp2_with (fail)
      refine ⟨trivial, HD.out.mono ?_⟩
      rintro e v1 ⟨rfl, rfl⟩
      gi_wp2_with (fail)
      refine (HY.out).mono ?_
      rintro e v6 ⟨b, rfl, hd⟩
      rcases hd.out with ⟨rfl, hJ3, hK3⟩ | ⟨rfl, hJx3⟩
      · have S3 : Blk v6 B 9 #[.string E] := (hK3.same _ HB.out.1.lt (.inr ⟨by omega, by omega⟩)).trans HB.out.1
        have P3 : Blk v6 (B + 1) 9 #[.string ⟨#[46]⟩] := (hK3.same _ HB.out.2.1.lt (.inr ⟨by omega, by omega⟩)).trans HB.out.2.1
        have Z3 : Blk v6 (B + 2) 3 #[.int .i64 0] := (hK3.same _ HB.out.2.2.lt (.inr ⟨by omega, by omega⟩)).trans HB.out.2.2
        have d0 := S3.cell 0
        have d1 := P3.cell 0
        have df := S3.frozen 0
        have hs3 := hK3.size
        have H3 := Lib.hid (And.intro hJ3 (And.intro S3 (And.intro P3 (And.intro Z3 hs3))))
        clear hJ3 hK3 S3 P3 Z3 hd
        gi_wp2_with (fail)
        gi_roundg (L.length + 1 - (k + 1))
        case measure => have := HR.out.2.1; omega
        case rel =>
          have hlt := HR.out.2.1
          have h3 := H3.out
          refine ⟨k + 1, by omega, hlt, HK.out.1 _ _ _ _ h3.1 (.cell _ (.inr ⟨Nat.le_refl _, by show B < _; omega⟩)), ?_, h3.2.2.1.far (by show B + 1 ≠ B; omega) _, h3.2.2.2.1.far (by show B + 2 ≠ B; omega) _, ?_⟩
          · rw [HR.out.1]
            exact h3.2.1.set_ 0 _
          · have := HR.out.2.2; have := h3.2.2.2.2; simp; omega
      · clear hd
        gi_wp2_with (fail)
        refine bodyPost_ret (results_none rfl _ _ _) rfl ?_
        exact ⟨⟨_, rfl⟩, _, .inr ⟨_, List.take_prefix _ _, hJx3⟩⟩
    · obtain ⟨x, hx⟩ : ∃ x, L[k] = x := ⟨_, rfl⟩
      have hkL : k + 1 = L.length := by omega
      have hjl := join_last hkL
      rw [hx] at hxm hpre hjl
      rw [hjl] at c0 HB
      obtain ⟨E, hE⟩ : ∃ E : ByteArray, (⟨x.toArray⟩ : ByteArray) = E := ⟨_, rfl⟩
      have hlist : E.data.toList = x := by rw [← hE]
      have hid := HI.out E wr
      rw [hlist, ix_no hxm] at hid
      have HD := Lib.hid hid
      have hyld := HK.out.2.2 W.heap.size _ x wr hj.out (by rw [hpre]; exact List.take_prefix _ _)
      rw [hpre] at hyld
      obtain ⟨fn, tmps, assign, body, hy, hRR⟩ := yield_deep (m := n - 1) hyld
      have hRR2 := hRR.mono (R' := fun e W' => ∃ b, e = .returned (.bool b) ∧ Hid ((b = true ∧ J W.heap.size (L.take (k + 1)) W' ∧ KeepX W.heap.size W.heap.size B (B + 3) wr W') ∨ (b = false ∧ Jx W.heap.size (L.take (k + 1)) W'))) (by
        rintro e W' (⟨rfl, h1, h2⟩ | ⟨rfl, h1, _⟩)
        · exact ⟨true, rfl, Lib.hid (.inl ⟨rfl, h1, h2⟩)⟩
        · exact ⟨false, rfl, Lib.hid (.inr ⟨rfl, h1⟩)⟩)
      have HY := Lib.hid hRR2
      rw [hE] at c0 HB hy
      have HR := Lib.hid hkL
      clear hid hlist hE hpre hx hjl hxm hyld hRR hRR2 hlt hll hsz hkL
      gi_wp2_with (fail)
      refine ⟨trivial, HD.out.mono ?_⟩
      rintro e v1 ⟨rfl, rfl⟩
      gi_wp2_with (fail)
      refine (HY.out).mono ?_
      rintro e v6 ⟨b, rfl, hd⟩
      have HKL := HR.out
      rcases hd.out with ⟨rfl, hJ3, hK3⟩ | ⟨rfl, hJx3⟩
      · rw [HKL, List.take_length] at hJ3
        clear hd hK3
        gi_wp2_with (fail)
        refine bodyPost_end (results_none rfl _ _ _) rfl ?_
        exact ⟨⟨_, rfl⟩, _, .inl hJ3⟩
      · clear hd
        gi_wp2_with (fail)
        refine bodyPost_end (results_none rfl _ _ _) rfl ?_
        exact ⟨⟨_, rfl⟩, _, .inr ⟨_, List.take_prefix _ _, hJx3⟩⟩
theorem split_in (n : Nat) (s : ByteArray) (w : World) :
    CallsIn Fence.wide n Tryd.prog 38 #[.string s, .string ⟨#[46]⟩, .int .i64 0] w fun e w' => e = .returned (.func (.func 44) #[] #[.pointer (some ⟨w.heap.size + 1, 0, none⟩), .pointer (some ⟨w.heap.size, 0, none⟩), .pointer (some ⟨w.heap.size + 2, 0, none⟩)]) ∧ w' = ((w.alloc (.cells #[.string s] 9)).alloc (.cells #[.string ⟨#[46]⟩] 9)).alloc (.cells #[.int .i64 0] 3) := by
  refine callsIn_of_wp Tryd.func38 rfl trivial ?_ rfl
  simp only [Tryd.ntmps38, List.size_toArray, List.length_cons, List.length_nil, Nat.reduceAdd, Nat.reduceSub, Array.replicate_succ, Array.replicate_zero, List.push_toArray, List.append_toArray, List.nil_append, List.cons_append]
  gi_wp2
  go_ret
  exact ⟨rfl, rfl⟩
theorem splitSeq_in (n : Nat) (s : ByteArray) (w : World) :
    CallsIn Fence.wide n Tryd.prog 31 #[.string s, .string ⟨#[46]⟩] w fun e w' => e = .returned (.func (.func 44) #[] #[.pointer (some ⟨w.heap.size + 1, 0, none⟩), .pointer (some ⟨w.heap.size, 0, none⟩), .pointer (some ⟨w.heap.size + 2, 0, none⟩)]) ∧ w' = ((w.alloc (.cells #[.string s] 9)).alloc (.cells #[.string ⟨#[46]⟩] 9)).alloc (.cells #[.int .i64 0] 3) := by
  refine callsIn_of_wp Tryd.func31 rfl trivial ?_ rfl
  simp only [Tryd.ntmps31, List.size_toArray, List.length_cons, List.length_nil, Nat.reduceAdd, Nat.reduceSub, Array.replicate_succ, Array.replicate_zero, List.push_toArray, List.append_toArray, List.nil_append, List.cons_append]
  gi_wp2_with (fail)
  refine ⟨trivial, fun h => by simp [Fence.wide] at h, (split_in _ s _).mono ?_⟩
  rintro e w' ⟨rfl, rfl⟩
  gi_wp2_with (fail)
  go_ret
  exact ⟨rfl, rfl⟩
end Go.Proofs.YtenmhfhnhfhooaaDoor
