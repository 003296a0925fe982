/- The walks of package strings' Builder: WriteByte, WriteString, String. -/
import Derived.Test.YtgfpnkakglgokaaRet
import Derived.Test.YtgfpnkakglgokaaSl
import Derived.Test.YtgfpnkakglgokaaChecked
import Derived.Lib.Builder
import Derived.Lib.AppendStr
import Derived.Lib.UnsafeStr
import Derived.Maps.AppendAt
import Derived.Laws.Externs
import Derived.RegionTactic
import Derived.OwnWalk
import Derived.Deep.DeepMust
import Derived.Outline
namespace Go.Proofs.Ytgfpnkakglgokaa
open Go.RowKit Go.Lib

/-- A builder at block b that holds the bytes l; what is named in K lies apart. -/
def Bd (K : Nat → Prop) (w : World) (b : Nat) (l : List UInt8) : Prop :=
  (∀ i, K i → i < w.heap.size ∧ i ≠ b) ∧ ∃ p v, (p = .pointer none ∨ p = .pointer (some ⟨b, 0, none⟩)) ∧ Blk w b 153 #[p, v] ∧ w.ownsRow 0 5 1 v l.length (l.map b8) ∧ (∀ g, v.ownBlock = some g → g ≠ b ∧ ¬ K g)
theorem own_keep {w w' : World} {e : TypeId} {size n : Nat} {v : Value} {xs : List Value} (h : w.ownsRow 0 e size v n xs) (hk : ∀ g, v.ownBlock = some g → w'.heap[g]? = w.heap[g]?) : w'.ownsRow 0 e size v n xs := by
  refine ⟨h.1, ?_⟩
  rcases h.2 with h1 | ⟨g, cap, cur, rfl, h2, h3, h4⟩
  · exact .inl h1
  · exact .inr ⟨g, cap, cur, rfl, h2, (hk g rfl).trans h3, h4⟩
section
variable {K K' : Nat → Prop} {w w' : World} {b : Nat} {l : List UInt8}
theorem Bd.lt (h : Bd K w b l) : b < w.heap.size := by obtain ⟨_, p, v, _, h, _⟩ := h; exact h.lt
theorem Bd.mono (h : Bd K w b l) (hk : ∀ i, K' i → K i) : Bd K' w b l := by
  obtain ⟨h1, p, v, h2, h3, h4, h5⟩ := h
  exact ⟨fun i hi => h1 i (hk i hi), p, v, h2, h3, h4, fun g hg => ⟨(h5 g hg).1, fun h => (h5 g hg).2 (hk g h)⟩⟩
theorem Bd.start (w : World) : Bd (fun i => i < w.heap.size) (w.alloc (.cells #[.pointer none, .slice none 0 0] 153)) w.heap.size [] :=
  ⟨fun i hi => ⟨by simp; omega, by omega⟩, _, _, .inl rfl, Blk.new w _ _, World.ownsRow_nil _ _ _ _, fun g hg => by simp [Value.ownBlock] at hg⟩
/-- What is new may be named, too. -/
theorem Bd.wide (h : Bd K w b l) (hb : Below w.heap.size w w') (hk : ∀ i, K' i → (K i ∨ w.heap.size ≤ i) ∧ i < w'.heap.size) : Bd K' w' b l := by
  obtain ⟨h1, p, v, h2, h3, h4, h5⟩ := h
  have hlt := (Sl.of_own h4).lt
  refine ⟨fun i hi => ⟨(hk i hi).2, ?_⟩, p, v, h2, h3.below hb h3.lt, own_keep h4 (fun g hg => hb.block g (hlt g hg)), fun g hg => ⟨(h5 g hg).1, fun h => ?_⟩⟩
  · rcases (hk i hi).1 with h | h
    · exact (h1 i h).2
    · have := h3.lt; omega
  · rcases (hk g h).1 with h | h
    · exact (h5 g hg).2 h
    · have := hlt g hg; omega
theorem Bd.below (h : Bd K w b l) (hb : Below w.heap.size w w') : Bd K w' b l := h.wide hb fun i hi => ⟨.inl hi, Nat.lt_of_lt_of_le (h.1 i hi).1 hb.size⟩
theorem Bd.drewN (h : Bd K w b l) (n : Nat) : Bd K (w.drewN n) b l := h
/-- A store, or whatever else, into what is named. -/
theorem Bd.keepK (h : Bd K w b l) (hk : KeepK K' w w') (hb : K' b) (hg : ∀ g, ¬ K g → g < w.heap.size → K' g) : Bd K w' b l := by
  obtain ⟨h1, p, v, h2, h3, h4, h5⟩ := h
  have hlt := (Sl.of_own h4).lt
  exact ⟨fun i hi => ⟨Nat.lt_of_lt_of_le (h1 i hi).1 hk.size, (h1 i hi).2⟩, p, v, h2, h3.keepK hk hb, own_keep h4 (fun g e => hk.block g (hg g (h5 g e).2 (hlt g e))), h5⟩
/-- Behind an append and the store of its result. -/
theorem Bd.put {l' : List UInt8} {p v v' : Value} {w1 : World} (hK : ∀ i, K i → i < w.heap.size ∧ i ≠ b) (hp : p = .pointer none ∨ p = .pointer (some ⟨b, 0, none⟩)) (hB : Blk w b 153 #[p, v]) (hv : ∀ g, v.ownBlock = some g → g ≠ b ∧ ¬ K g)
    (hg : w.grownBy w1 v.ownBlock) (hs : w1.ownsRow 0 5 1 v' l'.length (l'.map b8)) (hv' : ∀ g, v'.ownBlock = some g → v.ownBlock = some g ∨ w.heap.size ≤ g) :
    Bd K (w1.setCell ⟨b, 1, none⟩ v') b l' ∧ KeepK K w (w1.setCell ⟨b, 1, none⟩ v') := by
  have hbl := hB.lt
  have hown : ∀ g, v'.ownBlock = some g → g ≠ b ∧ ¬ K g := by
    intro g hgg
    rcases hv' g hgg with h | h
    · exact hv g h
    · exact ⟨by omega, fun hk => by have := (hK _ hk).1; omega⟩
  have hB1 := hB.grown hg (fun e => (hv b e.symm).1 rfl)
  have hsz := hg.size
  refine ⟨⟨fun i hi => ?_, p, v', hp, hB1.set_ 1 v', own_keep hs (fun g e => Below.heap_setCell w1 _ _ g (hown g e).1), hown⟩, ?_⟩
  · have := hK i hi
    simp [World.setCell]; omega
  · exact ((KeepK.refl K w).grown hg (fun i hi => (hK i hi).1) (fun i hi e => (hv i e.symm).2 hi)).setCell (fun i hi => (hK i hi).2) _
end

theorem info_u8b : (Try.prog.info? 5).map (fun i => (i.zero, i.size, i.bytes)) = some (some (.int .u8 0), 1, 1) := by kernel_rfl
theorem info_bd : (Try.prog.info? 153).map (·.size) = some 2 := by kernel_rfl
theorem lies_bd : liesAt Try.prog Try.prog.depth 153 (2 / Try.prog.cellsOf 153) 0 153 1 = true := by kernel_rfl

set_option maxHeartbeats 1000000 in
set_option maxRecDepth 100000 in
theorem copyCheck_used (b : Nat) (w : World) (h0 : w.cell? ⟨b, 0, none⟩ = some (.pointer (some ⟨b, 0, none⟩))) :
    Calls Try.prog 76 #[.pointer (some ⟨b, 0, none⟩)] w fun e w' => e = .returned (.tuple #[]) ∧ w = w' := by
  obtain ⟨j, hj, _⟩ := Option.map_eq_some_iff.1 info_bd
  have hq := Lib.run_neq_ptr_same (P := Try.prog) w ⟨b, 0, none⟩ Try.underlying151 hj
  go_enter Try.func76, Try.ntmps76
  go_wp2
  refine bodyPost_end (results_none rfl _ _ _) rfl ?_
  exact ⟨rfl, rfl⟩

set_option maxHeartbeats 1000000 in
set_option maxRecDepth 100000 in
theorem copyCheck_fresh (b : Nat) (w : World) (h0 : w.cell? ⟨b, 0, none⟩ = some (.pointer none)) (hsh : w.shape? b = some (153, 2)) (hfz : w.frozen? ⟨b, 0, none⟩ = false) :
    Calls Try.prog 76 #[.pointer (some ⟨b, 0, none⟩)] w fun e w' => e = .returned (.tuple #[]) ∧ w' = w.setCell ⟨b, 0, none⟩ (.pointer (some ⟨b, 0, none⟩)) := by
  obtain ⟨j, hj, hjs⟩ := Option.map_eq_some_iff.1 info_bd
  have q1 := Lib.run_to_unsafe (P := Try.prog) w ⟨b, 0, none⟩ Try.underlying151 Try.underlying163 hj (by rw [hjs]; decide) hsh (Nat.zero_lt_succ 1)
  have q3 := Lib.run_from_unsafe (P := Try.prog) w ⟨b, 0, none⟩ Try.underlying163 Try.underlying151 hj hsh lies_bd
  go_enter Try.func76, Try.ntmps76
  go_wp2
  rw [run_callFunc_extern Try.func78 (by kernel_rfl) (by kernel_rfl) (by kernel_rfl) (e := Extern.AbiNoEscape.same) (by kernel_rfl)]
  rw [Lib.run_noEscape]
  simp only [Result.andThen]
  rw [Oper.upon_value]
  go_wp2
  refine bodyPost_end (results_none rfl _ _ _) rfl ?_
  exact ⟨rfl, rfl⟩

theorem copyCheck_any {K : Nat → Prop} {w : World} {b : Nat} {l : List UInt8} (h : Bd K w b l) :
    Calls Try.prog 76 #[.pointer (some ⟨b, 0, none⟩)] w fun e w' => e = .returned (.tuple #[]) ∧ Bd K w' b l ∧ KeepK K w w' := by
  have H := h
  obtain ⟨h1, p, v, h2, h3, h4, h5⟩ := h
  rcases h2 with rfl | rfl
  · refine (copyCheck_fresh b w (h3.cell 0) (by unfold World.shape?; rw [show w.heap[b]? = some _ from h3]; rfl) (h3.frozen 0)).mono ?_
    rintro e w' ⟨rfl, rfl⟩
    exact ⟨rfl, ⟨fun i hi => by have := h1 i hi; simpa [World.setCell] using this, _, v, .inr rfl, h3.set_ 0 _, own_keep h4 (fun g hg => Below.heap_setCell w _ _ g (h5 g hg).1), h5⟩, (KeepK.refl K w).setCell (fun i hi => (h1 i hi).2) _⟩
  · refine (copyCheck_used b w (h3.cell 0)).mono ?_
    rintro e w' ⟨rfl, rfl⟩
    exact ⟨rfl, H, KeepK.refl K _⟩

/-- An append whose run is known. -/
theorem wpList_append_run {P : Program} (w : World) {ops : Array Oper} {rest : List Oper} {o : Oper} {a : Act} {Q : Exit → Act → World → Prop} (hgd : o.guard = none) (s x : Operand) (t tx : TypeId)
    (ho : o.op = .call { callee := .builtin .append, args := #[s, x], argTypes := #[t, tx] }) (v y : Value) (hs : a.eval s = v) (hx : a.eval x = y) {v' : Value} {w' : World}
    (hr : (Builtin.append_ #[t, tx] o.type #[v, y]).run P w = .ok v' w') (h : wpList P ops Q rest (a.put o.dst v') w') : wpList P ops Q (o :: rest) a w := by
  refine wpList_plain hgd fun K hK => ?_
  unfold Oper.wp execOp
  simp only [ho, resolve, invoke, builtin, Sem.run_bind, Sem.run_pure, Result.andThen_ok, List.map_toArray, List.map_cons, List.map_nil, hs, hx, hr]
  exact hK _ _ h
/-- An append to an owned row, with all that is told of it. -/
theorem run_append_bytes (w : World) (tx ty : TypeId) (x : Value) (s : List UInt8) (v : Value) (l : List UInt8) (hown : w.ownsRow 0 5 1 v l.length (l.map b8)) (hsmall : l.length + s.length ≤ 140737488355328)
    (hs : Src Try.prog 1 tx x s.length (s.map b8) w) (hr : ∃ v' w', (Builtin.append_ #[120, tx] ty #[v, x]).run Try.prog w = .ok v' w' ∧ w'.ownsRow 0 5 1 v' (l.length + s.length) (l.map b8 ++ s.map b8)) :
    ∃ v' w', (Builtin.append_ #[120, tx] ty #[v, x]).run Try.prog w = .ok v' w' ∧ w'.ownsRow 0 5 1 v' (l ++ s).length ((l ++ s).map b8) ∧ w.grownBy w' v.ownBlock ∧ (v'.ownBlock = v.ownBlock ∨ v'.ownBlock = some w.heap.size) := by
  obtain ⟨i, hi, hz0, hz1, hz2⟩ := info_parts info_u8b
  obtain ⟨v1, w1, r1, _, g1, o1⟩ := run_append_sl (P := Try.prog) w 120 tx ty 5 i (.int .u8 0) 1 1 Try.underlying120 hi hz0 hz1 hz2 rfl v l.length (l.map b8) (Sl.of_own hown) x s.length (s.map b8) hs (by unfold maxLen; omega) (by omega)
  obtain ⟨v2, w2, r2, h2⟩ := hr
  rw [r1] at r2
  injection r2 with e1 e2
  subst e1 e2
  refine ⟨v1, w1, r1, ?_, g1, o1⟩
  rw [List.length_append, List.map_append]
  exact h2

set_option maxHeartbeats 2000000 in
set_option maxRecDepth 100000 in
theorem bWriteString_any {K : Nat → Prop} {w : World} {b : Nat} {l : List UInt8} (s : ByteArray) (h : Bd K w b l) (hl : l.length + s.size ≤ 140737488355328) :
    Calls Try.prog 71 #[.pointer (some ⟨b, 0, none⟩), .string s] w fun e w' => e = .returned (.tuple #[.int .i64 (s.size : Int), .nilIface]) ∧ Bd K w' b (l ++ s.data.toList) ∧ KeepK K w w' := by
  have HC := Lib.hid (copyCheck_any h)
  have hsz : s.data.toList.length = s.size := by simp
  have HL := Lib.hid (And.intro hl hsz)
  have hsI : (s.size : Int) ≤ 9223372036854775807 := by omega
  clear h hl hsz
  go_enter Try.func71, Try.ntmps71
  go_wp2_with (fail)
  refine HC.out.mono ?_
  rintro e w1 ⟨rfl, ⟨h1, p, v, h2, h3, h4, h5⟩, hk⟩
  obtain ⟨i, hi, hz0, hz1, hz2⟩ := info_parts info_u8b
  have c1 := h3.cell 1
  have f1 := h3.frozen 1
  obtain ⟨v', w2, hr, hs2, hg2, ho2⟩ := run_append_bytes w1 9 120 (.string s) s.data.toList v l h4 (by rw [HL.out.2]; exact HL.out.1) (by rw [HL.out.2]; exact Src.ofString _ Try.underlying9 s) (by
    obtain ⟨v', w', hr, h, _⟩ := run_append_own_string (P := Try.prog) w1 0 120 9 120 5 i Try.underlying120 Try.underlying9 hi hz0 hz1 hz2 v l.length (l.map b8) h4 s (by have := HL.out.1; unfold maxLen; omega) HL.out.1 (Nat.zero_le _)
    exact ⟨v', w', hr, by rw [HL.out.2]; exact h⟩)
  obtain ⟨A2, q2, rfl, _, _⟩ := (Sl.of_own hs2).shape
  have hb2 := h3.grown hg2 (fun e => (h5 b e.symm).1 rfl)
  have d1 := hb2.frozen 1
  have e1 := hb2.cell 1
  have HP := Lib.hid (Bd.put (K := K) h1 h2 h3 h5 hg2 hs2 (fun g hg => by rcases ho2 with e | e; exact .inl (e ▸ hg); right; rw [hg] at e; have := Option.some.inj e; omega))
  have HK := Lib.hid hk
  clear h1 h2 h3 h4 h5 hk hs2 hg2 ho2 hb2 hi hz0 hz1 hz2
  go_wp2_with (at_builtin; go_must (refine wpList_append_run _ rfl (.tmp 12) (.tmp 13) 120 9 rfl v (.string s) rfl rfl hr ?_))
  go_ret2
  have hP := HP.out
  rw [List.length_append, HL.out.2] at hP
  exact ⟨rfl, hP.1, HK.out.trans hP.2⟩

set_option maxHeartbeats 2000000 in
set_option maxRecDepth 100000 in
/-- What a builder tells; what is named stands as it stood. -/
theorem bString_some {K : Nat → Prop} {w : World} {b : Nat} {l : List UInt8} (h : Bd K w b l) (h0 : l ≠ []) :
    Calls Try.prog 72 #[.pointer (some ⟨b, 0, none⟩)] w fun e w' => e = .returned (.string ⟨l.toArray⟩) ∧ KeepK K w w' := by
  obtain ⟨h1, p, v, _, hbk, hown, hne⟩ := h
  have hl0 : l.length ≠ 0 := by simpa using h0
  obtain ⟨g, cap, cur, rfl, hg, hnc, hcm, hcs⟩ : ∃ g cap cur, v = .slice (some ⟨g, 0, none⟩) l.length cap ∧ w.heap[g]? = some (.cells cur 5 (0, 0)) ∧ l.length ≤ cap ∧ cap ≤ maxLen ∧ cur.size = cap * 1 := by
    rcases hown.2 with ⟨_, hz⟩ | ⟨g, cap, cur, hv, _, r1, r2, r3, r4, _⟩
    · exact absurd hz hl0
    · exact ⟨g, cap, cur, hv, r1, r2, r3, r4⟩
  have c1 : w.drew.cell? ⟨b, 1, none⟩ = some (.slice (some ⟨g, 0, none⟩) l.length cap) := (hbk.drew).cell 1
  have hSD : (Builtin.unsafeSliceData_ #[120] 162 #[.slice (some ⟨g, 0, none⟩) l.length cap]).run Try.prog w.drew = .ok (.pointer (some ⟨g, 0, none⟩)) w.drew :=
    Lib.run_unsafeSliceData_row _ _ _ _ _ _ (by omega)
  have hUS : (Builtin.unsafeString_ #[162, 3] 9 #[.pointer (some ⟨g, 0, none⟩), .int .i64 l.length]).run Try.prog w.drew = .ok (.string ⟨l.toArray⟩) (w.drew.freeze ⟨g, 0, none⟩ l.length) := by
    refine Lib.run_unsafeString_row w.drew 162 3 9 5 Try.underlying162 (by kernel_rfl) g cur.size (by have hg' : w.drew.heap[g]? = some (.cells cur 5 (0, 0)) := hg; simp [World.shape?, hg']) l h0 (by omega) (by unfold maxLen at hcm; omega) ?_
    intro j x hx
    exact (Sl.of_own hown).cell (g := g) rfl (j := j) (u := .int .u8 x.toNat) (by rw [List.getElem?_map, hx]; rfl) |> fun e => by
      have ea : (⟨g, 0, none⟩ : Addr).add j = ⟨g, j, none⟩ := by unfold Addr.add; split <;> simp_all
      rw [ea]; exact e
  have hK : KeepK K w (w.drew.freeze ⟨g, 0, none⟩ l.length) := by
    unfold World.freeze
    rw [if_neg hl0]
    refine ⟨rfl, rfl, rfl, by simp, fun i hi => ?_⟩
    have hi2 : i ≠ g := fun e => (hne g rfl).2 (e ▸ hi)
    simp only [Array.getElem?_modify]
    rw [if_neg (Ne.symm hi2)]
    rfl
  have HK := Lib.hid hK
  clear hK hbk hown hne h1 hg hnc hcm hcs h0
  go_enter Try.func72, Try.ntmps72
  go_wp2
  go_region
  all_goals (go_wp2; go_ret; exact ⟨rfl, HK.out⟩)
end Go.Proofs.Ytgfpnkakglgokaa
