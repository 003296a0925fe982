/- The reference's queue (hardtackref44): what it is in memory; New, of, Of, Len. Conditions: none. -/
import Derived.Test.YtkdfbmbccopchaaQF
import Derived.Laws.ResultCell
import Derived.Laws.Rows
namespace Go.Proofs.Ytkdfbmbccopchaa
open Go.RowKit Go.Lib

/-- Clients and their numbers, with the value that the numbers lie behind. -/
abbrev Rw := List ((Int × List Int) × Value)
def flatR (rs : Rw) : List Value := rs.flatMap fun q => [u32V q.1.1, q.2]
def clOf (rs : Rw) : Cl := rs.map Prod.fst
theorem flatR_app (s t : Rw) : flatR (s ++ t) = flatR s ++ flatR t := by simp [flatR]
theorem flatR_len (rs : Rw) : (flatR rs).length = rs.length * 2 := by
  induction rs with
  | nil => rfl
  | cons q t ih =>
    have : flatR (q :: t) = [u32V q.1.1, q.2] ++ flatR t := by simp [flatR]
    rw [this, List.length_append, ih, List.length_cons (a := q), Nat.add_mul]
    simp; omega
theorem flatR_get {rs : Rw} {j : Nat} {q : (Int × List Int) × Value} (h : rs[j]? = some q) : (flatR rs)[j * 2]? = some (u32V q.1.1) ∧ (flatR rs)[j * 2 + 1]? = some q.2 := by
  obtain ⟨hj, rfl⟩ := List.getElem?_eq_some_iff.1 h
  have e1 : rs = rs.take j ++ ([rs[j]] ++ rs.drop (j + 1)) := by simp
  have e2 : flatR rs = flatR (rs.take j) ++ (flatR [rs[j]] ++ flatR (rs.drop (j + 1))) := by rw [← flatR_app, ← flatR_app, ← e1]
  have hl : (flatR (rs.take j)).length = j * 2 := by rw [flatR_len, List.length_take, Nat.min_eq_left (by omega)]
  have h1 : flatR [rs[j]] = [u32V rs[j].1.1, rs[j].2] := by simp [flatR]
  constructor
  · rw [e2, List.getElem?_append_right (by omega), hl, Nat.sub_self, h1]; rfl
  · rw [e2, List.getElem?_append_right (by omega), hl, show j * 2 + 1 - j * 2 = 1 by omega, h1]; rfl
/-- A client's numbers. -/
def RC (w : World) (K : Nat → Prop) (v : Value) (l : List Int) : Prop := Sl w 1 v l.length (l.map i64V) ∧ ∀ i, v.ownBlock = some i → K i
theorem RC.keep {w w' : World} {K : Nat → Prop} {v : Value} {l : List Int} (h : RC w K v l) (hk : KeepK K w w') : RC w' K v l := ⟨h.1.keepK hk h.2, h.2⟩
theorem RC.mono {w : World} {K K' : Nat → Prop} {v : Value} {l : List Int} (h : RC w K v l) (hk : ∀ i, K i → K' i) : RC w K' v l := ⟨h.1, fun i hi => hk i (h.2 i hi)⟩
/-- The reference's queue, behind the slice lv. -/
structure RQ (w : World) (K : Nat → Prop) (lv : Value) (n : Nat) (rs : Rw) : Prop where
  len : rs.length = n
  s : Sl w 2 lv n (flatR rs)
  own : ∀ i, lv.ownBlock = some i → K i
  each : ∀ q ∈ rs, RC w K q.2 q.1.2
theorem RQ.keep {w w' : World} {K : Nat → Prop} {lv : Value} {n : Nat} {rs : Rw} (h : RQ w K lv n rs) (hk : KeepK K w w') : RQ w' K lv n rs := ⟨h.len, h.s.keepK hk h.own, h.own, fun q hq => (h.each q hq).keep hk⟩
theorem RQ.mono {w : World} {K K' : Nat → Prop} {lv : Value} {n : Nat} {rs : Rw} (h : RQ w K lv n rs) (hk : ∀ i, K i → K' i) : RQ w K' lv n rs := ⟨h.len, h.s, fun i hi => hk i (h.own i hi), fun q hq => (h.each q hq).mono hk⟩
theorem rw_split (rs : Rw) (a : Int) : (∀ q ∈ rs, q.1.1 ≠ a) ∨ ∃ s l v r, rs = s ++ ((a, l), v) :: r ∧ ∀ q ∈ s, q.1.1 ≠ a := by
  induction rs with
  | nil => exact .inl fun q hq => by cases hq
  | cons p t ih =>
    by_cases h : p.1.1 = a
    · refine .inr ⟨[], p.1.2, p.2, t, ?_, fun q hq => by cases hq⟩
      obtain ⟨⟨c, l⟩, v⟩ := p
      dsimp at h
      subst h
      rfl
    · rcases ih with ih | ⟨s, l, v, r, rfl, hs⟩
      · exact .inl fun q hq => by
          rcases List.mem_cons.1 hq with rfl | hq
          · exact h
          · exact ih q hq
      · exact .inr ⟨p :: s, l, v, r, rfl, fun q hq => by
          rcases List.mem_cons.1 hq with rfl | hq
          · exact h
          · exact hs q hq⟩

theorem res_cell_tmp2 {P : Program} {fn : Func} {p u : Tmp} {ty : TypeId} (h : fn.results = #[.cell p ty, .tmp u]) (tmps : Array Value) (w : World) (g : Nat) (t : TypeId) (cs : Array Value) (d : TypeDesc)
    (hp : tmps.getD p undef = .pointer (some ⟨g, 0, none⟩)) (hg : Blk w g t cs) (hu : P.underlying ty = some d) (hd : (match d with | .struct _ | .array _ _ => true | _ => false) = true) (hi : (P.info? ty).map (·.size) = some cs.size) :
    (results fn tmps).run P w = .ok (.tuple #[.agg cs, tmps.getD u undef]) w := by
  rw [results_cell_tmp h, hp]
  simp [asAddr, Result.andThen, run_loadVar_row w g t ty cs _ d hg hu hd hi]
theorem agg_queue : (Try.prog.info? 40).map (·.size) = some 3 := by kernel_rfl

set_option maxRecDepth 100000 in
theorem rnew44 (room each : Int) (w : World) : Calls Try.prog 16 #[.int .i64 room, .int .i64 each] w fun e w' =>
    e = .returned (.tuple #[.agg #[.int .i64 room, .int .i64 each, .slice none 0 0], .bool (decide (1 ≤ room ∧ room ≤ 1024 ∧ 1 ≤ each ∧ each ≤ 1024))]) ∧ Below w.heap.size w w' := by
  go_enter Try.func16, Try.ntmps16
  go_wp2_with (fail)
  all_goals (try simp only [Exit.inBlock, Exit.then])
  all_goals (refine bodyPost_ret (res_cell_tmp2 rfl _ _ w.heap.size 40 #[.int .i64 room, .int .i64 each, .slice none 0 0] _ rfl (Blk.new w _ _) Try.underlying40 rfl agg_queue) rfl ?_)
  all_goals (refine ⟨?_, (Below.refl _ _).alloc (Nat.le_refl _) _⟩)
  all_goals (simp_all <;> omega)

def OfPost (rs : Rw) (a : Int) (w : World) (e : Ending) (w' : World) : Prop :=
  ((∃ s l v r, rs = s ++ ((a, l), v) :: r ∧ (∀ q ∈ s, q.1.1 ≠ a) ∧ e = .returned (.tuple #[.int .i64 (s.length : Int), v])) ∨ ((∀ q ∈ rs, q.1.1 ≠ a) ∧ e = .returned (.tuple #[.int .i64 (-1), .slice none 0 0]))) ∧ Below w.heap.size w w'

set_option maxRecDepth 100000 in
set_option maxHeartbeats 1000000 in
theorem rof44 (room each : Int) (A : Option Addr) (n c : Nat) (K : Nat → Prop) (rs : Rw) (a : Int) (w : World) (hR : RQ w K (.slice A n c) n rs) (hn : n ≤ 1000000) :
    Calls Try.prog 54 #[.agg #[.int .i64 room, .int .i64 each, .slice A n c], .int .u32 a] w fun e w' =>
      OfPost rs a w e w' := by
  have HR := Lib.hid hR
  have hnI : (n : Int) ≤ 1000000 := by omega
  obtain ⟨B, hB⟩ : ∃ B, w.heap.size = B := ⟨_, rfl⟩
  clear hn
  rcases rw_split rs a with hno | ⟨s, l, v, r, rfl, hs⟩
  · have HS := Lib.hid hno
    clear hno hR
    go_enter Try.func54, Try.ntmps54
    go_wp2_with (fail)
    go_loopg [6, 7, 11] n (fun gg _ _ v11 wr => ∃ k : Nat, v11 = .int .i64 (k : Int) ∧ Aside (gg + k = n) ∧ Aside (Below w.heap.size w wr))
    case atStart => exact ⟨0, rfl, rfl, (Below.refl _ _).alloc (Nat.le_refl _) _⟩
    case round =>
      obtain ⟨k, rfl, hg, hb⟩ := hrel
      by_cases hk : k < n
      · have hkI : (k : Int) < (n : Int) := by omega
        obtain ⟨q, hq⟩ : ∃ q, rs[k]? = some q := ⟨_, List.getElem?_eq_getElem (by have := HR.out.len; omega)⟩
        have hqa := HS.out q (List.mem_of_getElem? hq)
        have hqe := (HR.out.each q (List.mem_of_getElem? hq)).1.shape
        obtain ⟨⟨qa, ql⟩, qv⟩ := q
        obtain ⟨Aq, cq, hqv, _, _⟩ := hqe
        dsimp only at hqv hqa
        subst hqv
        obtain ⟨g, cap, hv, hgl, _, _, hcell⟩ := HR.out.s.form (by omega)
        injection hv with hA _ hc
        subst hA hc
        have e0 : wr.cell? ⟨g, k * 2, none⟩ = some (.int .u32 qa) := (hb.out.cell (p := ⟨g, k * 2, none⟩) hgl).trans (hcell _ _ (flatR_get hq).1)
        have e1 : wr.cell? ⟨g, k * 2 + 1, none⟩ = some (.slice Aq ql.length cq) := (hb.out.cell (p := ⟨g, k * 2 + 1, none⟩) hgl).trans (hcell _ _ (flatR_get hq).2)
        have HK := Lib.hid hk
        have hqb : (qa == a) = false := by simp [hqa]
        clear hk hcell hq
        go_wp2_with (fail)
        go_roundg (n - (k + 1))
        case measure => have := hg.out; have := HK.out; omega
        case rel => exact ⟨k + 1, by go_num, (by show _ = _; have := hg.out; have := HK.out; omega), hb.out.alloc hb.out.size _⟩
      · have hkI : ¬ (k : Int) < (n : Int) := by omega
        clear hk
        go_wp2_with (fail)
        go_ret2
        exact ⟨.inr ⟨HS.out, rfl⟩, hb.out⟩
  · have HS := Lib.hid hs
    have hve := (hR.each ((a, l), v) (by simp)).1.shape
    obtain ⟨Av, cv, hvv, _, _⟩ := hve
    dsimp only at hvv
    subst hvv
    clear hs hR
    go_enter Try.func54, Try.ntmps54
    go_wp2_with (fail)
    go_loopg [6, 7, 11] n (fun gg _ _ v11 wr => ∃ k : Nat, v11 = .int .i64 (k : Int) ∧ Aside (gg + k = n ∧ k ≤ s.length) ∧ Aside (Below w.heap.size w wr))
    case atStart => exact ⟨0, rfl, ⟨rfl, Nat.zero_le _⟩, (Below.refl _ _).alloc (Nat.le_refl _) _⟩
    case round =>
      obtain ⟨k, rfl, hg, hb⟩ := hrel
      have hsl : s.length < n := by have := HR.out.len; rw [List.length_append, List.length_cons] at this; omega
      have hk : k < n := by have := hg.out.2; omega
      have hkI : (k : Int) < (n : Int) := by omega
      obtain ⟨g, cap, hv, hgl, _, _, hcell⟩ := HR.out.s.form (by omega)
      injection hv with hA _ hc
      subst hA hc
      by_cases hks : k < s.length
      · obtain ⟨q, hq⟩ : ∃ q, s[k]? = some q := ⟨_, List.getElem?_eq_getElem hks⟩
        have hq' : (s ++ ((a, l), Value.slice Av l.length cv) :: r)[k]? = some q := by rw [List.getElem?_append_left hks]; exact hq
        have hqa := HS.out q (List.mem_of_getElem? hq)
        have hqe := (HR.out.each q (List.mem_of_getElem? hq')).1.shape
        obtain ⟨⟨qa, ql⟩, qv⟩ := q
        obtain ⟨Aq, cq, hqv, _, _⟩ := hqe
        dsimp only at hqv hqa
        subst hqv
        have e0 : wr.cell? ⟨g, k * 2, none⟩ = some (.int .u32 qa) := (hb.out.cell (p := ⟨g, k * 2, none⟩) hgl).trans (hcell _ _ (flatR_get hq').1)
        have e1 : wr.cell? ⟨g, k * 2 + 1, none⟩ = some (.slice Aq ql.length cq) := (hb.out.cell (p := ⟨g, k * 2 + 1, none⟩) hgl).trans (hcell _ _ (flatR_get hq').2)
        have HK := Lib.hid (And.intro hk hks)
        have hqb : (qa == a) = false := by simp [hqa]
        clear hk hcell hq hq' hks hsl
        go_wp2_with (fail)
        go_roundg (n - (k + 1))
        case measure => have := hg.out; have := HK.out; omega
        case rel => exact ⟨k + 1, by go_num, (by show _ ∧ _; have := hg.out; have := HK.out; omega), hb.out.alloc hb.out.size _⟩
      · have hke : k = s.length := by have := hg.out; omega
        have hq' : (s ++ ((a, l), Value.slice Av l.length cv) :: r)[k]? = some ((a, l), Value.slice Av l.length cv) := by rw [hke, List.getElem?_append_right (Nat.le_refl _), Nat.sub_self]; rfl
        have e0 : wr.cell? ⟨g, k * 2, none⟩ = some (.int .u32 a) := (hb.out.cell (p := ⟨g, k * 2, none⟩) hgl).trans (hcell _ _ (flatR_get hq').1)
        have e1 : wr.cell? ⟨g, k * 2 + 1, none⟩ = some (.slice Av l.length cv) := (hb.out.cell (p := ⟨g, k * 2 + 1, none⟩) hgl).trans (hcell _ _ (flatR_get hq').2)
        have hqb : (a == a) = true := by simp
        have HK := Lib.hid hke
        clear hk hcell hq' hks hsl hke
        go_wp2_with (fail)
        go_quiet (fail)
        go_wp2_with (fail)
        go_ret2
        exact ⟨.inl ⟨s, l, _, r, rfl, HS.out, by rw [← HK.out]; rfl⟩, below_drewN (hb.out.alloc hb.out.size _) _⟩
end Go.Proofs.Ytkdfbmbccopchaa
