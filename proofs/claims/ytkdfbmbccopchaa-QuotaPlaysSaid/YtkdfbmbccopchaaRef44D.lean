/- The reference's queue: Drop. Conditions: none. -/
import Derived.Test.YtkdfbmbccopchaaRef44B
namespace Go.Proofs.Ytkdfbmbccopchaa
open Go.RowKit Go.Lib

/-- What a call gives that makes another queue. -/
def RNew (room each : Int) (K : Nat → Prop) (cl : Cl) (z : Value) (w : World) (e : Ending) (w' : World) : Prop :=
  ∃ (A : Option Addr) (n c : Nat) (rs : Rw), e = .returned (.tuple #[.agg #[.int .i64 room, .int .i64 each, .slice A n c], z]) ∧ RQ w' (fun i => K i ∨ w.heap.size ≤ i) (.slice A n c) n rs ∧ clOf rs = cl ∧ Below w.heap.size w w'
def notC (a : Int) (q : (Int × List Int) × Value) : Bool := decide (q.1.1 ≠ a)
theorem clOf_drop (rs : Rw) (a : Int) : clOf (rs.filter (notC a)) = dropC (clOf rs) a := by
  unfold clOf dropC
  rw [List.filter_map]
  rfl
theorem getC_take {rs : Rw} {k : Nat} {q : (Int × List Int) × Value} {a : Int} (hn : ((clOf rs).map Prod.fst).Nodup) (h : rs[k]? = some q) :
    (getC (clOf (rs.take (k + 1))) a) = if q.1.1 = a then q.1.2 else getC (clOf (rs.take k)) a := by
  obtain ⟨hk, rfl⟩ := List.getElem?_eq_some_iff.1 h
  have e : clOf (rs.take (k + 1)) = clOf (rs.take k) ++ [(rs[k].1.1, rs[k].1.2)] := by
    show (rs.take (k + 1)).map Prod.fst = (rs.take k).map Prod.fst ++ _
    rw [show rs.take (k + 1) = rs.take k ++ [rs[k]] by simp, List.map_append]; rfl
  have hno : ∀ p ∈ clOf (rs.take k), p.1 ≠ rs[k].1.1 := by
    intro p hp hpe
    have e2 : clOf rs = clOf (rs.take k) ++ clOf (rs[k] :: rs.drop (k + 1)) := by
      show rs.map Prod.fst = (rs.take k).map Prod.fst ++ (rs[k] :: rs.drop (k + 1)).map Prod.fst
      rw [← List.map_append]
      congr 1
      simp
    rw [e2, List.map_append, List.nodup_append] at hn
    exact hn.2.2 p.1 (List.mem_map.2 ⟨p, hp, rfl⟩) rs[k].1.1 (List.mem_map.2 ⟨rs[k].1, List.mem_map.2 ⟨rs[k], List.mem_cons_self, rfl⟩, rfl⟩) hpe
  rw [e, getC_append _ _ _ _ hno]
  by_cases h : a = rs[k].1.1
  · rw [if_pos h, if_pos h.symm]
  · rw [if_neg h, if_neg fun e => h e.symm]
theorem filter_take {rs : Rw} {k : Nat} {q : (Int × List Int) × Value} {a : Int} (h : rs[k]? = some q) : (rs.take (k + 1)).filter (notC a) = (rs.take k).filter (notC a) ++ if q.1.1 = a then [] else [q] := by
  obtain ⟨hk, rfl⟩ := List.getElem?_eq_some_iff.1 h
  rw [show rs.take (k + 1) = rs.take k ++ [rs[k]] by simp, List.filter_append]
  congr 1
  by_cases h : rs[k].1.1 = a <;> simp [notC, h]

theorem info_client : (Try.prog.info? 100).map (fun i => (i.zero, i.size, i.bytes)) = some (some (.agg #[.int .u32 0, .slice none 0 0]), 2, 32) := by kernel_rfl
theorem src_two {P : Program} {tx e' : TypeId} (hk : P.underlying tx = some (.slice e')) (w : World) (t : TypeId) (a b : Value) (h1 : a.oneCell' = true) (h2 : b.oneCell' = true) (g : Nat) (hg : w.heap.size = g) : Src P 2 tx (.slice (some ⟨g, 0, none⟩) 1 1) 1 [a, b] (w.alloc (.cells #[a, b] t)) := by
  subst hg
  exact Src.ofSlice _ hk ⟨w.heap.size, 0, none⟩ 1 1 [a, b] rfl (fun j x hx => by
    match j, hx with
    | 0, hx => simp at hx; subst hx; simp [Addr.add]
    | 1, hx => simp at hx; subst hx; simp [Addr.add]
    | j + 2, hx => simp at hx) (fun x hx => by
    simp at hx
    rcases hx with rfl | rfl <;> assumption)

set_option maxRecDepth 100000 in
set_option maxHeartbeats 4000000 in
theorem rDrop44 (room each : Int) (A : Option Addr) (n c : Nat) (K : Nat → Prop) (rs : Rw) (a : Int) (w : World) (hR : RQ w K (.slice A n c) n rs) (hn : n ≤ 1000000) (hok : ((clOf rs).map Prod.fst).Nodup) :
    Calls Try.prog 19 #[.agg #[.int .i64 room, .int .i64 each, .slice A n c], .int .u32 a] w (RNew room each K (dropC (clOf rs) a) (.int .i64 ((getC (clOf rs) a).length : Int)) w) := by
  obtain ⟨i0, hi0, hz0, hz1, hz2⟩ := info_parts info_client
  have HR := Lib.hid hR
  have hnI : (n : Int) ≤ 1000000 := by omega
  have HN := Lib.hid (And.intro hn hok)
  clear hR hn hok
  go_enter Try.func19, Try.ntmps19
  go_wp2_with (fail)
  go_loopg [6, 7, 9, 13] n (fun gg v6 v7 _ v13 wr => ∃ (k m cnt : Nat) (Ao : Option Addr) (co : Nat), v13 = .int .i64 (k : Int) ∧ v6 = .slice Ao m co ∧ v7 = .int .i64 (cnt : Int) ∧ Aside (gg + k = n ∧ cnt = (getC (clOf (rs.take k)) a).length) ∧ Aside (((rs.take k).filter (notC a)).length = m) ∧ Aside (Sl wr 2 (.slice Ao m co) m (flatR ((rs.take k).filter (notC a)))) ∧ Aside (∀ i, (Value.slice Ao m co).ownBlock = some i → w.heap.size + 2 ≤ i) ∧ Aside (Below w.heap.size w wr) ∧ Aside (Blk wr w.heap.size 40 #[.int .i64 room, .int .i64 each, .slice A n c] ∧ Blk wr (w.heap.size + 1) 40 #[.int .i64 0, .int .i64 0, .slice none 0 0] ∧ w.heap.size + 2 ≤ wr.heap.size))
  case atStart => exact ⟨0, 0, 0, none, 0, rfl, rfl, rfl, ⟨rfl, rfl⟩, rfl, Sl.nil _ _, (by show ∀ i, _ → _; intro i hi; cases hi), ((Below.refl _ _).alloc (Nat.le_refl _) _).alloc (by simp) _, ⟨(Blk.new _ _ _).alloc _, heap_alloc2_new _ _ _, by simp⟩⟩
  case round =>
    obtain ⟨k, m, cnt, Ao, co, rfl, rfl, rfl, hg, hm, hS, hO, hb, hB⟩ := hrel
    by_cases hk : k < n
    · have hkI : (k : Int) < (n : Int) := by omega
      obtain ⟨q, hq⟩ : ∃ q, rs[k]? = some q := ⟨_, List.getElem?_eq_getElem (by have := HR.out.len; omega)⟩
      have hqe := (HR.out.each q (List.mem_of_getElem? hq)).1.shape
      have hgt := getC_take (a := a) HN.out.2 hq
      have hft := filter_take (a := a) hq
      obtain ⟨⟨qa, ql⟩, qv⟩ := q
      obtain ⟨Aq, cq, hqv, _, _⟩ := hqe
      dsimp only at hqv hgt
      subst hqv
      obtain ⟨g, cap, hv, hgl, _, _, hcell⟩ := HR.out.s.form (by omega)
      injection hv with hA _ hc
      subst hA hc
      have e0 : wr.cell? ⟨g, k * 2, none⟩ = some (.int .u32 qa) := (hb.out.cell (p := ⟨g, k * 2, none⟩) hgl).trans (hcell _ _ (flatR_get hq).1)
      have e1 : wr.cell? ⟨g, k * 2 + 1, none⟩ = some (.slice Aq ql.length cq) := (hb.out.cell (p := ⟨g, k * 2 + 1, none⟩) hgl).trans (hcell _ _ (flatR_get hq).2)
      by_cases hqa : qa = a
      · have hqb : (qa == a) = true := by simp [hqa]
        rw [if_pos hqa] at hgt
        rw [show (((qa, ql), Value.slice Aq ql.length cq) : (Int × List Int) × Value).1.1 = qa from rfl, if_pos hqa, List.append_nil] at hft
        have HK := Lib.hid (And.intro hk (And.intro hgt hft))
        clear hk hcell hq hgt hft
        go_wp2_with (fail)
        go_roundg (n - (k + 1))
        case measure => have := hg.out; have := HK.out.1; omega
        case rel => exact ⟨k + 1, m, ql.length, Ao, co, by go_num, rfl, rfl, (by show _ ∧ _; rw [HK.out.2.1]; have := hg.out; have := HK.out.1; exact ⟨by omega, rfl⟩), (by show _ = _; rw [HK.out.2.2]; exact hm.out), (by show Sl _ _ _ _ _; rw [HK.out.2.2]; exact hS.out.alloc _), hO.out, hb.out.alloc hb.out.size _, ⟨hB.out.1.alloc _, hB.out.2.1.alloc _, by have := hB.out.2.2; simp; omega⟩⟩
      · have hqb : (qa == a) = false := by simp [hqa]
        rw [if_neg hqa] at hgt
        rw [show (((qa, ql), Value.slice Aq ql.length cq) : (Int × List Int) × Value).1.1 = qa from rfl, if_neg hqa] at hft
        have hml : m ≤ 1000000 := by
          have := List.length_filter_le (notC a) (rs.take k)
          have := hm.out; have := HN.out.1; have := hg.out
          rw [List.length_take] at *
          omega
        have HSL := Lib.hid ((hS.out.alloc (.cells #[.int .u32 qa, .slice Aq ql.length cq] 100)).alloc (.cells #[.int .u32 qa, .slice Aq ql.length cq] 100))
        have HSR := Lib.hid (src_two (P := Try.prog) Try.underlying38 (wr.alloc (.cells #[.int .u32 qa, .slice Aq ql.length cq] 100)) 100 (.int .u32 qa) (.slice Aq ql.length cq) rfl rfl (wr.heap.size + 1) (by simp))
        have HK := Lib.hid (And.intro hk (And.intro hgt (And.intro hft hml)))
        clear hk hcell hq hgt hft hml
        go_wp2_with (at_builtin; go_must (refine wpList_append_sl _ rfl (.tmp 24) (.tmp 26) 38 38 rfl 100 i0 (.agg #[.int .u32 0, .slice none 0 0]) 2 32 Try.underlying38 hi0 hz0 hz1 hz2 rfl (.slice Ao m co) m _ rfl HSL.out _ rfl 1 [.int .u32 qa, .slice Aq ql.length cq] HSR.out (by have := HK.out.2.2.2; unfold maxLen; omega) (by have := HK.out.2.2.2; omega) ?_); intro v3 w3 hs3 hg3 hv3; obtain ⟨A3, c3, rfl, hc3, hm3⟩ := hs3.shape; have H3 := Lib.hid (And.intro hs3 (And.intro hg3 hv3)); clear hs3 hg3 hv3 hc3 hm3)
        obtain ⟨hs3, hg3, hv3⟩ := H3.out
        have hb2 := (hb.out.alloc hb.out.size (.cells #[.int .u32 qa, .slice Aq ql.length cq] 100)).alloc (by have := hb.out.size; simp; omega) (.cells #[.int .u32 qa, .slice Aq ql.length cq] 100)
        have hne : ∀ i, i < w.heap.size + 2 → some i ≠ (Value.slice Ao m co).ownBlock := fun i hi e => by have := hO.out i e.symm; omega
        have hF := And.intro (own_from hO.out (by have := hB.out.2.2; simp; omega) hv3) (And.intro (hb2.grown hg3 (by have := hb2.size; exact this) (fun i hi => by have := hO.out i hi; omega)) (And.intro (((hB.out.1.alloc _).alloc _).grown hg3 (hne _ (by omega))) (((hB.out.2.1.alloc _).alloc _).grown hg3 (hne _ (by omega)))))
        have HF := Lib.hid (And.intro hF (show w.heap.size + 2 ≤ w3.heap.size from by have := hg3.size; have := hB.out.2.2; simp at *; omega))
        have hs3' : Sl w3 2 (.slice A3 (m + 1) c3) (m + 1) (flatR ((rs.take (k + 1)).filter (notC a))) := by
          rw [HK.out.2.2.1, flatR_app]
          exact hs3
        have HS3 := Lib.hid hs3'
        clear hs3 hg3 hv3 hb2 hs3' hF hne
        go_roundg (n - (k + 1))
        case measure => have := hg.out; have := HK.out.1; omega
        case rel => exact ⟨k + 1, m + 1, cnt, A3, c3, by go_num, rfl, rfl, (by show _ ∧ _; rw [HK.out.2.1]; have h1 := hg.out; have := HK.out.1; exact ⟨by omega, h1.2⟩), (by show _ = _; rw [HK.out.2.2.1, List.length_append, hm.out]; rfl), HS3.out, HF.out.1.1, HF.out.1.2.1, ⟨HF.out.1.2.2.1, HF.out.1.2.2.2, HF.out.2⟩⟩
    · have hkI : ¬ (k : Int) < (n : Int) := by omega
      have hkn : k = n := by have := hg.out; omega
      subst hkn
      have htk : rs.take k = rs := List.take_of_length_le (by have := HR.out.len; omega)
      have hcnt := hg.out.2
      have hS' := hS.out
      have hm' := hm.out
      rw [htk] at hcnt hS' hm'
      have b0 := hB.out.1.cell 0
      have b1 := hB.out.1.cell 1
      have b2 := hB.out.1.cell 2
      have f2 := hB.out.1.frozen 2
      have d0 := hB.out.2.1.cell 0
      have d1 := hB.out.2.1.cell 1
      have d2 := hB.out.2.1.cell 2
      have g0 := hB.out.2.1.frozen 0
      have g1 := hB.out.2.1.frozen 1
      have g2 := hB.out.2.1.frozen 2
      have HE := Lib.hid (And.intro hcnt (And.intro hS' hm'))
      clear hk htk hcnt hS' hm'
      go_wp2_with (fail)
      have hBF : Blk ((((wr.setCell ⟨w.heap.size, 2, none⟩ (.slice Ao m co)).setCell ⟨w.heap.size + 1, 0, none⟩ (.int .i64 room)).setCell ⟨w.heap.size + 1, 1, none⟩ (.int .i64 each)).setCell ⟨w.heap.size + 1, 2, none⟩ (.slice Ao m co)) (w.heap.size + 1) 40 #[.int .i64 room, .int .i64 each, .slice Ao m co] := by
        have h := (((hB.out.2.1.far (p := ⟨w.heap.size, 2, none⟩) (by show _ ≠ w.heap.size; omega) (.slice Ao m co)).set_ 0 (.int .i64 room)).set_ 1 (.int .i64 each)).set_ 2 (.slice Ao m co)
        simpa using h
      have hBB : Below w.heap.size w ((((wr.setCell ⟨w.heap.size, 2, none⟩ (.slice Ao m co)).setCell ⟨w.heap.size + 1, 0, none⟩ (.int .i64 room)).setCell ⟨w.heap.size + 1, 1, none⟩ (.int .i64 each)).setCell ⟨w.heap.size + 1, 2, none⟩ (.slice Ao m co)) :=
        (((hb.out.setCell (by show w.heap.size ≤ w.heap.size; omega) _).setCell (by show w.heap.size ≤ w.heap.size + 1; omega) _).setCell (by show w.heap.size ≤ w.heap.size + 1; omega) _).setCell (by show w.heap.size ≤ w.heap.size + 1; omega) _
      have hSF := (((HE.out.2.1.far (p := ⟨w.heap.size, 2, none⟩) (fun g hg => by have := hO.out g hg; show g ≠ w.heap.size; omega) (.slice Ao m co)).far (p := ⟨w.heap.size + 1, 0, none⟩) (fun g hg => by have := hO.out g hg; show g ≠ w.heap.size + 1; omega) (.int .i64 room)).far (p := ⟨w.heap.size + 1, 1, none⟩) (fun g hg => by have := hO.out g hg; show g ≠ w.heap.size + 1; omega) (.int .i64 each)).far (p := ⟨w.heap.size + 1, 2, none⟩) (fun g hg => by have := hO.out g hg; show g ≠ w.heap.size + 1; omega) (.slice Ao m co)
      (try simp only [Exit.inBlock, Exit.then])
      refine bodyPost_ret (res_cell_tmp2 rfl _ _ (w.heap.size + 1) 40 #[.int .i64 room, .int .i64 each, .slice Ao m co] _ rfl hBF Try.underlying40 rfl agg_queue) rfl ?_
      refine ⟨Ao, m, co, rs.filter (notC a), ?_, ⟨HE.out.2.2, hSF, fun i hi => .inr (by have := hO.out i hi; omega), fun q hq => ?_⟩, clOf_drop rs a, hBB⟩
      · rw [← HE.out.1]; rfl
      · have h := HR.out.each q (List.mem_filter.1 hq).1
        exact ⟨h.1.below hBB fun g hg => h.1.lt g hg, fun i hi => .inl (h.2 i hi)⟩
end Go.Proofs.Ytkdfbmbccopchaa
