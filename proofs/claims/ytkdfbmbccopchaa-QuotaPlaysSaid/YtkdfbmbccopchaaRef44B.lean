/- The reference's queue: Of, Len, Row; SameNumbers at equal rows. Conditions: none. -/
import Derived.Test.YtkdfbmbccopchaaRef44
namespace Go.Proofs.Ytkdfbmbccopchaa
open Go.RowKit Go.Lib

theorem getC_split {s r : Rw} {a : Int} {l : List Int} {v : Value} (h : ∀ q ∈ s, q.1.1 ≠ a) : getC (clOf (s ++ ((a, l), v) :: r)) a = l := by
  induction s with
  | nil => show (if a = a then l else _) = l; rw [if_pos rfl]
  | cons q t ih =>
    show (if q.1.1 = a then _ else getC (clOf (t ++ ((a, l), v) :: r)) a) = l
    rw [if_neg (h q (by simp))]
    exact ih fun q hq => h q (by simp [hq])
theorem getC_noR {rs : Rw} {a : Int} (h : ∀ q ∈ rs, q.1.1 ≠ a) : getC (clOf rs) a = [] :=
  getC_none fun p hp => by
    obtain ⟨q, hq, rfl⟩ := List.mem_map.1 hp
    exact h q hq
theorem manyC_take {rs : Rw} {k : Nat} {q : (Int × List Int) × Value} (h : rs[k]? = some q) : manyC (clOf (rs.take (k + 1))) = manyC (clOf (rs.take k)) + q.1.2.length := by
  obtain ⟨hk, rfl⟩ := List.getElem?_eq_some_iff.1 h
  have e : rs.take (k + 1) = rs.take k ++ [rs[k]] := by simp
  rw [e]
  show manyC ((rs.take k ++ [rs[k]]).map Prod.fst) = _
  rw [List.map_append, manyC_append]
  show _ + manyC [rs[k].1] = _
  rw [manyC_cons]
  simp [manyC, clOf]

set_option maxRecDepth 100000 in
set_option maxHeartbeats 1000000 in
theorem rOf44 (room each : Int) (A : Option Addr) (n c : Nat) (K : Nat → Prop) (rs : Rw) (a : Int) (w : World) (hR : RQ w K (.slice A n c) n rs) (hn : n ≤ 1000000) :
    Calls Try.prog 23 #[.agg #[.int .i64 room, .int .i64 each, .slice A n c], .int .u32 a] w fun e w' =>
      e = .returned (.int .i64 ((getC (clOf rs) a).length : Int)) ∧ Below w.heap.size w w' := by
  have hof : Calls Try.prog 54 #[.agg #[.int .i64 room, .int .i64 each, .slice A n c], .int .u32 a] (w.alloc (.cells #[.int .i64 room, .int .i64 each, .slice A n c] 40)) (OfPost rs a (w.alloc (.cells #[.int .i64 room, .int .i64 each, .slice A n c] 40))) :=
    rof44 room each A n c (fun i => i < w.heap.size) rs a _ (⟨hR.len, hR.s.alloc _, fun i hi => hR.s.lt i hi, fun q hq => ⟨(hR.each q hq).1.alloc _, fun i hi => (hR.each q hq).1.lt i hi⟩⟩) hn
  have HO := Lib.hid hof
  have HR := Lib.hid hR
  clear hof hR hn
  go_enter Try.func23, Try.ntmps23
  go_wp2_with (fail)
  with_reducible refine HO.out.mono ?_
  rintro e w2 ⟨hcase, hb⟩
  have HB := Lib.hid (((Below.refl w.heap.size w).alloc (Nat.le_refl _) (.cells #[.int .i64 room, .int .i64 each, .slice A n c] 40)).trans (hb.mono (by simp)))
  clear hb
  rcases hcase with ⟨s, l, v, r, rfl, hs, rfl⟩ | ⟨hno, rfl⟩
  · obtain ⟨Av, cv, hv, _, _⟩ := (HR.out.each ((a, l), v) (by simp)).1.shape
    dsimp only at hv
    subst hv
    have HG := Lib.hid (getC_split (r := r) (l := l) (v := .slice Av l.length cv) hs)
    clear hs
    go_wp2_with (fail)
    go_ret
    exact ⟨by rw [HG.out]; rfl, HB.out⟩
  · have HG := Lib.hid (getC_noR hno)
    clear hno
    go_wp2_with (fail)
    go_ret
    exact ⟨by rw [HG.out]; rfl, HB.out⟩

set_option maxRecDepth 100000 in
set_option maxHeartbeats 1000000 in
theorem rLen44 (room each : Int) (A : Option Addr) (n c : Nat) (K : Nat → Prop) (rs : Rw) (w : World) (hR : RQ w K (.slice A n c) n rs) (hn : n ≤ 1000000) (hm : manyC (clOf rs) ≤ 1000000) :
    Calls Try.prog 21 #[.agg #[.int .i64 room, .int .i64 each, .slice A n c]] w fun e w' =>
      e = .returned (.int .i64 (manyC (clOf rs) : Int)) ∧ Below w.heap.size w w' := by
  have HR := Lib.hid hR
  have hnI : (n : Int) ≤ 1000000 := by omega
  have HM := Lib.hid hm
  clear hR hn hm
  go_enter Try.func21, Try.ntmps21
  go_wp2_with (fail)
  go_loopg [3, 5, 9] n (fun gg v3 _ v9 wr => ∃ k m : Nat, v9 = .int .i64 (k : Int) ∧ v3 = .int .i64 (m : Int) ∧ Aside (gg + k = n ∧ m = manyC (clOf (rs.take k))) ∧ Aside (Below w.heap.size w wr))
  case atStart => exact ⟨0, 0, rfl, rfl, ⟨rfl, rfl⟩, (Below.refl _ _).alloc (Nat.le_refl _) _⟩
  case round =>
    obtain ⟨k, m, rfl, rfl, hg, hb⟩ := hrel
    by_cases hk : k < n
    · have hkI : (k : Int) < (n : Int) := by omega
      obtain ⟨q, hq⟩ : ∃ q, rs[k]? = some q := ⟨_, List.getElem?_eq_getElem (by have := HR.out.len; omega)⟩
      have hqe := (HR.out.each q (List.mem_of_getElem? hq)).1.shape
      have hmt := manyC_take hq
      have hle : manyC (clOf (rs.take (k + 1))) ≤ manyC (clOf rs) := by
        have e : clOf rs = clOf (rs.take (k + 1)) ++ clOf (rs.drop (k + 1)) := by
          show rs.map _ = _
          rw [show clOf (rs.take (k + 1)) ++ clOf (rs.drop (k + 1)) = (rs.take (k + 1) ++ rs.drop (k + 1)).map Prod.fst by rw [List.map_append]; rfl, List.take_append_drop]
        rw [e, manyC_append]; omega
      obtain ⟨⟨qa, ql⟩, qv⟩ := q
      obtain ⟨Aq, cq, hqv, _, _⟩ := hqe
      dsimp only at hqv hmt
      subst hqv
      obtain ⟨g, cap, hv, hgl, _, _, hcell⟩ := HR.out.s.form (by omega)
      injection hv with hA _ hc
      subst hA hc
      have e0 : wr.cell? ⟨g, k * 2, none⟩ = some (.int .u32 qa) := (hb.out.cell (p := ⟨g, k * 2, none⟩) hgl).trans (hcell _ _ (flatR_get hq).1)
      have e1 : wr.cell? ⟨g, k * 2 + 1, none⟩ = some (.slice Aq ql.length cq) := (hb.out.cell (p := ⟨g, k * 2 + 1, none⟩) hgl).trans (hcell _ _ (flatR_get hq).2)
      have hmI : (m : Int) + (ql.length : Int) ≤ 1000000 := by have := hg.out.2; have := HM.out; omega
      have HK := Lib.hid (And.intro hk hmt)
      clear hk hcell hq hmt hle
      go_wp2_with (fail)
      go_roundg (n - (k + 1))
      case measure => have := hg.out; have := HK.out; omega
      case rel => exact ⟨k + 1, m + ql.length, by go_num, by go_num, (by show _ ∧ _; have := hg.out; have := HK.out; omega), hb.out.alloc hb.out.size _⟩
    · have hkI : ¬ (k : Int) < (n : Int) := by omega
      have hm : m = manyC (clOf rs) := by
        have h1 := hg.out
        rw [List.take_of_length_le (by have := HR.out.len; omega)] at h1
        exact h1.2
      have HMM := Lib.hid hm
      clear hk hm
      go_wp2_with (fail)
      go_ret
      exact ⟨by rw [← HMM.out]; rfl, hb.out⟩

set_option maxRecDepth 100000 in
set_option maxHeartbeats 2000000 in
theorem rRow44 (room each : Int) (A : Option Addr) (n c : Nat) (K : Nat → Prop) (rs : Rw) (w : World) (hR : RQ w K (.slice A n c) n rs) (hn : n ≤ 1000000) :
    Calls Try.prog 25 #[.agg #[.int .i64 room, .int .i64 each, .slice A n c]] w (FreshPost n (rs.map fun q => u32V q.1.1) w) := by
  obtain ⟨i0, hi0, hz0, hz1, hz2⟩ := info_parts info_u32d
  have HR := Lib.hid hR
  have hnI : (n : Int) ≤ 1000000 := by omega
  have HN := Lib.hid hn
  clear hR hn
  go_enter Try.func25, Try.ntmps25
  go_wp2_with (fail)
  go_loopg [3, 5, 9] n (fun gg v3 _ v9 wr => ∃ (k : Nat) (Ao : Option Addr) (co : Nat), v9 = .int .i64 (k : Int) ∧ v3 = .slice Ao k co ∧ Aside (gg + k = n) ∧ Aside (Sl wr 1 (.slice Ao k co) k ((rs.take k).map fun q => u32V q.1.1)) ∧ Aside (∀ i, (Value.slice Ao k co).ownBlock = some i → w.heap.size ≤ i) ∧ Aside (Below w.heap.size w wr))
  case atStart => exact ⟨0, none, 0, rfl, rfl, rfl, Sl.nil _ _, (by show ∀ i, _ → _; intro i hi; cases hi), (Below.refl _ _).alloc (Nat.le_refl _) _⟩
  case round =>
    obtain ⟨k, Ao, co, rfl, rfl, hg, hS, hO, hb⟩ := hrel
    by_cases hk : k < n
    · have hkI : (k : Int) < (n : Int) := by omega
      obtain ⟨q, hq⟩ : ∃ q, rs[k]? = some q := ⟨_, List.getElem?_eq_getElem (by have := HR.out.len; omega)⟩
      have hqe := (HR.out.each q (List.mem_of_getElem? hq)).1.shape
      obtain ⟨⟨qa, ql⟩, qv⟩ := q
      obtain ⟨Aq, cq, hqv, _, _⟩ := hqe
      dsimp only at hqv
      subst hqv
      obtain ⟨g, cap, hv, hgl, _, _, hcell⟩ := HR.out.s.form (by omega)
      injection hv with hA _ hc
      subst hA hc
      have e0 : wr.cell? ⟨g, k * 2, none⟩ = some (.int .u32 qa) := (hb.out.cell (p := ⟨g, k * 2, none⟩) hgl).trans (hcell _ _ (flatR_get hq).1)
      have e1 : wr.cell? ⟨g, k * 2 + 1, none⟩ = some (.slice Aq ql.length cq) := (hb.out.cell (p := ⟨g, k * 2 + 1, none⟩) hgl).trans (hcell _ _ (flatR_get hq).2)
      have hS1 := (hS.out.alloc (.cells #[.int .u32 qa, .slice Aq ql.length cq] 100)).alloc (.cells #[.int .u32 qa] 28)
      have HSL := Lib.hid hS1
      have hsr := src_new (P := Try.prog) Try.underlying33 (wr.alloc (.cells #[.int .u32 qa, .slice Aq ql.length cq] 100)) 28 (.int .u32 qa) rfl
      rw [show (wr.alloc (.cells #[.int .u32 qa, .slice Aq ql.length cq] 100)).heap.size = wr.heap.size + 1 by simp] at hsr
      have HSR := Lib.hid hsr
      have HK := Lib.hid (And.intro hk hq)
      clear hk hcell hq hS1 hsr
      go_wp2_with (at_builtin; go_must (refine wpList_append_sl _ rfl (.tmp 13) (.tmp 16) 33 33 rfl 28 i0 (.int .u32 0) 1 4 Try.underlying33 hi0 hz0 hz1 hz2 rfl (.slice Ao k co) k _ rfl HSL.out _ rfl 1 [.int .u32 qa] HSR.out (by have := HN.out; have := HK.out.1; unfold maxLen; omega) (by have := HN.out; have := HK.out.1; omega) ?_); intro v3 w3 hs3 hg3 hv3; obtain ⟨A3, c3, rfl, hc3, hm3⟩ := hs3.shape; have H3 := Lib.hid (And.intro hs3 (And.intro hg3 hv3)); clear hs3 hg3 hv3 hc3 hm3)
      obtain ⟨hs3, hg3, hv3⟩ := H3.out
      have hb2 := (hb.out.alloc hb.out.size (.cells #[.int .u32 qa, .slice Aq ql.length cq] 100)).alloc (by have := hb.out.size; simp; omega) (.cells #[.int .u32 qa] 28)
      have HF := Lib.hid (And.intro (own_from hO.out (by have := hb2.size; exact this) hv3) (hb2.grown hg3 (by have := hb2.size; exact this) (fun i hi => hO.out i hi)))
      have hs3' : Sl w3 1 (.slice A3 (k + 1) c3) (k + 1) ((rs.take (k + 1)).map fun q => u32V q.1.1) := by
        obtain ⟨hkl, hke⟩ := List.getElem?_eq_some_iff.1 HK.out.2
        have e : rs.take (k + 1) = rs.take k ++ [((qa, ql), Value.slice Aq ql.length cq)] := by rw [← hke]; simp
        rw [e, List.map_append]
        exact hs3
      have HS3 := Lib.hid hs3'
      clear hs3 hg3 hv3 hb2 hs3'
      go_roundg (n - (k + 1))
      case measure => have := hg.out; have := HK.out.1; omega
      case rel => exact ⟨k + 1, A3, c3, by go_num, rfl, (by show _ = _; have := hg.out; have := HK.out.1; omega), HS3.out, HF.out.1, HF.out.2⟩
    · have hkI : ¬ (k : Int) < (n : Int) := by omega
      have hkn : k = n := by have := hg.out; omega
      subst hkn
      have hfin : Sl wr 1 (.slice Ao k co) k (rs.map fun q => u32V q.1.1) := by
        have := hS.out
        rw [List.take_of_length_le (by have := HR.out.len; omega)] at this
        exact this
      have HFI := Lib.hid hfin
      clear hk hfin
      go_wp2_with (fail)
      go_ret
      exact ⟨_, rfl, HFI.out, hO.out, hb.out⟩

set_option maxRecDepth 100000 in
set_option maxHeartbeats 2000000 in
/-- Equal rows of numbers. -/
theorem sameNumbers_any (u v : Value) (n : Nat) (l : List Int) (w : World) (hu : Sl w 1 u n (l.map u32V)) (hv : Sl w 1 v n (l.map u32V)) (hn : n ≤ 1000000) :
    Calls Try.prog 24 #[u, v] w fun e w' => e = .returned (.bool true) ∧ ∃ k, w' = w.drewN k := by
  obtain ⟨A, c, rfl, _, _⟩ := hu.shape
  obtain ⟨A', c', rfl, _, _⟩ := hv.shape
  have hnI : (n : Int) ≤ 1000000 := by omega
  have HS := Lib.hid (And.intro hu hv)
  clear hu hv hn
  go_enter Try.func24, Try.ntmps24
  go_wp2_with (fail)
  go_loopg [5, 13] n (fun gg _ v13 wr => ∃ k : Nat, v13 = .int .i64 (k : Int) ∧ Aside (gg + k = n) ∧ Aside (∃ m, wr = w.drewN m))
  case atStart => exact ⟨0, rfl, rfl, ⟨0, rfl⟩⟩
  case round =>
    obtain ⟨k, rfl, hg, hd⟩ := hrel
    by_cases hk : k < n
    · have hkI : (k : Int) < (n : Int) := by omega
      obtain ⟨g, cap, hv, hgl, _, _, hcell⟩ := HS.out.1.form (by omega)
      injection hv with hA _ hc
      subst hA hc
      obtain ⟨g', cap', hv', hgl', _, _, hcell'⟩ := HS.out.2.form (by omega)
      injection hv' with hA' _ hc'
      subst hA' hc'
      have hll : l.length = n := by have := HS.out.1.1; simp at this; omega
      obtain ⟨x, hx⟩ : ∃ x, l[k]? = some x := ⟨_, List.getElem?_eq_getElem (by omega)⟩
      have e0 : wr.cell? ⟨g, k, none⟩ = some (.int .u32 x) := by
        obtain ⟨m, rfl⟩ := hd.out
        exact hcell k _ (by rw [List.getElem?_map, hx]; rfl)
      have e1 : wr.cell? ⟨g', k, none⟩ = some (.int .u32 x) := by
        obtain ⟨m, rfl⟩ := hd.out
        exact hcell' k _ (by rw [List.getElem?_map, hx]; rfl)
      have hxx : (x == x) = true := by simp
      have HK := Lib.hid hk
      clear hk hcell hcell' hx hll
      go_wp2_with (fail)
      go_quiet (fail)
      go_wp2_with (fail)
      go_roundg (n - (k + 1))
      case measure => have := hg.out; have := HK.out; omega
      case rel => exact ⟨k + 1, by go_num, (by show _ = _; have := hg.out; have := HK.out; omega), (by
        obtain ⟨m, rfl⟩ := hd.out
        show ∃ _, _ = _
        exact ⟨_, World.drewN_drewN _ _ _⟩)⟩
    · have hkI : ¬ (k : Int) < (n : Int) := by omega
      clear hk
      go_wp2_with (fail)
      go_ret
      exact ⟨rfl, hd.out⟩
end Go.Proofs.Ytkdfbmbccopchaa
