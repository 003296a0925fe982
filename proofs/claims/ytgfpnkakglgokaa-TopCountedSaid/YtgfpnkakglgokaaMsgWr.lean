/- The walk of message.Check at a message of one question. Conditions: none. The walk of message.Write at a message of one question. Conditions: none. Plain: a message of one question, written, is read as it was, and is to be resolved. Conditions: none. -/
import Derived.Test.YtgfpnkakglgokaaVlLook
import Derived.Test.YtgfpnkakglgokaaCheck
import Derived.Test.YtgfpnkakglgokaaWriteSet
import Derived.Test.YtgfpnkakglgokaaPackChain
namespace Go.Proofs.Ytgfpnkakglgokaa
open Go.RowKit Go.Shelf Go.Lib
attribute [local go_sem] Oper.semAt_some

/-- Between the sections: the message's box, the result's box. -/
def ChkI (w : World) (id bi : Int) (A : Option Addr) (q : QRec) (c : Nat) (Ds : List Nat) (_X : Nat) (_pre : List Nat) (V : World) : Prop :=
  Below w.heap.size w V ∧ Blk V w.heap.size 35 #[.int .u16 id, .int .u16 bi, .slice A 1 c, .slice none 0 0, .slice none 0 0, .slice none 0 0] ∧ Blk V (w.heap.size + 1) 28 #[.int .i64 0] ∧ (∀ D ∈ Ds, w.heap.size + 2 ≤ D ∧ V.heap[D]? = some (.deferred (some [])))
theorem ChkI.out {w : World} {id bi : Int} {A : Option Addr} {q : QRec} {c X B : Nat} {Ds : List Nat} {pre pre' : List Nat} {V V' : World} (h : ChkI w id bi A q c Ds X pre V) (ho : Out B X V V') (hB : w.heap.size + 2 ≤ B) (hD : ∀ D ∈ Ds, D < B) : ChkI w id bi A q c Ds X pre' V' := by
  obtain ⟨h1, h2, h3, h4⟩ := h
  have hk := out_keep ho
  refine ⟨h1.trans (hk.below fun i hi => ⟨by have := h2.lt; omega, by omega⟩), h2.keepK hk ⟨h2.lt, by omega⟩, h3.keepK hk ⟨h3.lt, by omega⟩, fun D hDs => ⟨(h4 D hDs).1, ?_⟩⟩
  have hlt : D < V.heap.size := (Array.getElem?_eq_some_iff.1 (h4 D hDs).2).1
  exact (hk.block D ⟨hlt, .inl (hD D hDs)⟩).trans (h4 D hDs).2
theorem ChkI.below {w : World} {id bi : Int} {A : Option Addr} {q : QRec} {c X X' : Nat} {Ds : List Nat} {pre pre' : List Nat} {V V' : World} (h : ChkI w id bi A q c Ds X pre V) (hb : Below V.heap.size V V') : ChkI w id bi A q c Ds X' pre' V' := by
  obtain ⟨h1, h2, h3, h4⟩ := h
  exact ⟨h1.trans (hb.mono (by have := h2.lt; omega)), h2.below hb h2.lt, h3.below hb h3.lt, fun D hDs => ⟨(h4 D hDs).1, (hb.block D (Array.getElem?_eq_some_iff.1 (h4 D hDs).2).1).trans (h4 D hDs).2⟩⟩
theorem sec_field {pre : List Nat} {x : Nat} {v0 v1 v2 : Value} (h : pre ++ [x] <+: [3, 4, 5]) : #[v0, v1, v2, Value.slice none 0 0, Value.slice none 0 0, Value.slice none 0 0][x]? = some (.slice none 0 0) := by
  obtain ⟨rfl, hl⟩ := sec_at h
  have hc : pre.length = 0 ∨ pre.length = 1 ∨ pre.length = 2 := by omega
  rcases hc with h | h | h <;> rw [h] <;> rfl

theorem res_c1 {P : Program} {fn : Func} {p : Tmp} {ty : TypeId} (h : fn.results = #[.cell p ty]) (tmps : Array Value) (w : World) (a : Addr) (v : Value) (hp : tmps.getD p undef = .pointer (some a)) (hl : (loadVar ty a).run P w = .ok v w) :
    (results fn tmps).run P w = .ok v w := by
  have hp' : tmps[p]?.getD undef = .pointer (some a) := by simpa using hp
  simp [results, h, hp', asAddr, hl]
set_option maxRecDepth 100000 in
set_option maxHeartbeats 4000000 in
theorem msgChk_any (id bi : Int) (A : Option Addr) (q : QRec) (c : Nat) (w : World) (hq : QTabl w A [q]) (hn : isName q.n.data.toList = true) (hc : 1 ≤ c ∧ c ≤ maxLen) :
    Calls Try.prog 21 #[(askM id bi A [q] c).val] w fun e w' => e = .returned (.int .i64 0) ∧ Below w.heap.size w w' := by
  obtain ⟨n, hn8⟩ : ∃ n : Nat, 8 ≤ n := ⟨8, by omega⟩
  refine (callsIn_wide (n := n)).1 ?_
  have h1n : 1 ≤ n := by omega
  have hcm := hc.2
  unfold maxLen at hcm
  have hsz : q.n.size ≤ maxLen := by
    have := ((isName_iff _).1 hn).1
    have h2 : q.n.data.toList.length = q.n.size := by simp
    unfold maxLen
    omega
  have hchk : chkN q.n.data.toList = 0 := by unfold chkN; rw [if_pos hn]
  have HL := Lib.hid (fun W => (callsIn_wide (n := n - 1)).2 (Check_any q.n hsz W))
  rw [hchk] at HL
  obtain ⟨qb, qo, rfl, hqb, d0, d1, d2⟩ := hq.cells (k := 0) (e := q) rfl
  rw [Nat.zero_mul, Nat.add_zero] at d0 d1 d2
  have HQ := Lib.hid (fun W (hW : Below w.heap.size w W) => And.intro ((hW.cell (p := ⟨qb, qo, none⟩) hqb).trans d0) (And.intro ((hW.cell (p := ⟨qb, qo + 1, none⟩) hqb).trans d1) ((hW.cell (p := ⟨qb, qo + 2, none⟩) hqb).trans d2)))
  clear hsz hchk hq hqb d0 d1 d2
  obtain ⟨V0, hV0⟩ : ∃ V0, (w.alloc (.cells #[.int .u16 id, .int .u16 bi, .slice (some ⟨qb, qo, none⟩) 1 c, .slice none 0 0, .slice none 0 0, .slice none 0 0] 35)).alloc (.cells #[.int .i64 0] 28) = V0 := ⟨_, rfl⟩
  have hI0 : ChkI w id bi (some ⟨qb, qo, none⟩) q c [] 0 [] V0 := by
    refine ⟨by rw [← hV0]; exact ((Below.refl _ _).alloc (Nat.le_refl _) _).alloc (by simp) _, by rw [← hV0]; exact (Blk.new w _ _).alloc _, ?_, fun D hD => by cases hD⟩
    rw [← hV0]
    have := Blk.new (w.alloc (.cells #[.int .u16 id, .int .u16 bi, .slice (some ⟨qb, qo, none⟩) 1 c, .slice none 0 0, .slice none 0 0, .slice none 0 0] 35)) 28 #[.int .i64 0]
    rw [World.size_alloc] at this
    exact this
  have hz0 : V0.heap.size = w.heap.size + 2 := by rw [← hV0]; simp
  have m2 : V0.cell? ⟨w.heap.size, 2, none⟩ = some (.slice (some ⟨qb, qo, none⟩) 1 c) := hI0.2.1.cell 2
  have H0 := Lib.hid hI0
  clear hI0
  refine callsIn_of_wp_marks Try.func21 rfl trivial ?_ rfl
  simp only [Try.ntmps21, List.size_toArray, List.length_cons, List.length_nil, Nat.reduceAdd, Nat.reduceSub, Array.replicate_succ, Array.replicate_zero, List.push_toArray, List.append_toArray, List.nil_append, List.cons_append]
  dsimp only [MRec.val, askM, List.length_cons, List.length_nil]
  gi_wp2_with (fail)
  refine ⟨trivial, (sections_in (n - 1) w.heap.size _).mono ?_⟩
  rintro e W1 ⟨rfl, rfl⟩
  clear hV0
  gi_wp2_with (fail)
  have hbx0 : Blk (V0.alloc (.cells #[.pointer (some ⟨w.heap.size, 0, none⟩)] 82)) V0.heap.size 82 #[.pointer (some ⟨w.heap.size, 0, none⟩)] := Blk.new _ _ _
  have hI1 : ChkI w id bi (some ⟨qb, qo, none⟩) q c [] 0 [] (V0.alloc (.cells #[.pointer (some ⟨w.heap.size, 0, none⟩)] 82)) := H0.out.below ((Below.refl _ _).alloc (Nat.le_refl _) _)
  have hz1 : (V0.alloc (.cells #[.pointer (some ⟨w.heap.size, 0, none⟩)] 82)).heap.size = V0.heap.size + 1 := by simp
  generalize V0.alloc (.cells #[.pointer (some ⟨w.heap.size, 0, none⟩)] 82) = W1 at hbx0 hI1 hz1 ⊢
  have HI1 := Lib.hid hI1
  rw [hz0] at hbx0 hz1
  clear hI1 m2
  apply rangeM (gf := 51) (lb := #[.pointer (some ⟨w.heap.size + 2, 0, none⟩)]) rfl (enters_of Try.func51 (by kernel_rfl) rfl)
    (sections1_M (w.heap.size + 2) w.heap.size W1 hbx0) (by omega) (Below.refl _ _) (fun _ => rfl)
    (ChkI w id bi (some ⟨qb, qo, none⟩) q c [])
    (fun _ _ _ _ => False)
    ?hI (fun _ _ _ _ _ h => h.elim) ?h0
  case hI =>
    intro X pre A1 A2 h ho
    exact h.out ho (by omega) (fun D hD => by cases hD)
  case h0 =>
    intro X V hV hX
    exact HI1.out.below hV
  case hassign =>
    intro l x V K hK
    gi_wp2
    exact hK
  case hbody =>
    rintro l X pre x V hV hI hpre
    have c0 : V.cell? ⟨w.heap.size, x, none⟩ = some (.slice none 0 0) := (hI.2.1.cell x).trans (sec_field hpre)
    have HV := Lib.hid hI
    clear hI hz1
    gi_wp2_with (fail)
    exact ⟨KeepX.refl _ _ _ _ _, HV.out⟩
  case hstop =>
    rintro D X cd pre V hD _ _ h _
    exact h.elim
  case hdone =>
    rintro D X V hD hD2 hI hK
    have m2 : V.cell? ⟨w.heap.size, 2, none⟩ = some (.slice (some ⟨qb, qo, none⟩) 1 c) := hI.2.1.cell 2
    have hI2 : ChkI w id bi (some ⟨qb, qo, none⟩) q c [D] 0 [] V := ⟨hI.1, hI.2.1, hI.2.2.1, fun D' hD' => by rw [List.mem_singleton.1 hD']; exact ⟨by omega, hK⟩⟩
    have HI2 := Lib.hid hI2
    clear hI hK hI2
    gi_wp2_with (fail)
    gi_loopg [5, 23, 24, 25, 26, 27, 28, 29, 30, 31] 2 (fun g _ v23 _ _ _ _ _ _ _ _ wr => ∃ k : Nat, v23 = .int .i64 (k : Int) ∧ g + k = 2 ∧ k ≤ 1 ∧ Aside (ChkI w id bi (some ⟨qb, qo, none⟩) q c [D] 0 [] wr))
    case atStart => exact ⟨0, rfl, rfl, by omega, HI2.out⟩
    case round =>
      obtain ⟨k, rfl, hg, hk1, hI⟩ := hrel
      obtain ⟨qn, qt, qc⟩ := q
      by_cases hk0 : k = 0
      · subst hk0
        obtain ⟨d0, d1, d2⟩ := HQ.out wr hI.out.1
        dsimp only at d0 d1 d2 HL
        have hwr : qb < wr.heap.size := World.block_lt_of_cell? _ _ d0
        have HV := Lib.hid hI.out
        clear hI
        gi_wp2_with (fail)
        refine ⟨trivial, (HL.out _).mono ?_⟩
        rintro e u1 ⟨rfl, hb⟩
        have HU := Lib.hid (HV.out.below (pre' := []) (X' := 0) (show Below wr.heap.size wr u1 from ((Below.refl _ _).alloc (Nat.le_refl _) (.cells #[.string qn, .int .u16 qt, .int .u16 qc] 49)).trans (hb.mono (by simp))))
        clear hb d0 d1 d2
        gi_wp2_with (fail)
        gi_roundg 1
        case measure => omega
        case rel => exact ⟨1, rfl, rfl, by omega, HU.out⟩
      · obtain rfl : k = 1 := by omega
        have m0 : wr.cell? ⟨w.heap.size, 0, none⟩ = some (.int .u16 id) := hI.out.2.1.cell 0
        have HV := Lib.hid hI.out
        clear hI
        gi_wp2_with (fail)
        refine ⟨trivial, (sections_in (n - 1) w.heap.size _).mono ?_⟩
        rintro e W2 ⟨rfl, rfl⟩
        gi_wp2_with (fail)
        have hbx0 : Blk (wr.alloc (.cells #[.pointer (some ⟨w.heap.size, 0, none⟩)] 82)) wr.heap.size 82 #[.pointer (some ⟨w.heap.size, 0, none⟩)] := Blk.new _ _ _
        have hI1 : ChkI w id bi (some ⟨qb, qo, none⟩) ⟨qn, qt, qc⟩ c [D] 0 [] (wr.alloc (.cells #[.pointer (some ⟨w.heap.size, 0, none⟩)] 82)) := HV.out.below ((Below.refl _ _).alloc (Nat.le_refl _) _)
        have hz1 : (wr.alloc (.cells #[.pointer (some ⟨w.heap.size, 0, none⟩)] 82)).heap.size = wr.heap.size + 1 := by simp
        have hDl : D < wr.heap.size := (Array.getElem?_eq_some_iff.1 (HV.out.2.2.2 D (List.mem_singleton.2 rfl)).2).1
        have hwl := HV.out.2.2.1.lt
        generalize wr.alloc (.cells #[.pointer (some ⟨w.heap.size, 0, none⟩)] 82) = W2 at hbx0 hI1 hz1 ⊢
        have HI3 := Lib.hid hI1
        clear hI1 m0
        apply rangeM (gf := 51) (lb := #[.pointer (some ⟨wr.heap.size, 0, none⟩)]) rfl (enters_of Try.func51 (by kernel_rfl) rfl)
          (sections1_M wr.heap.size w.heap.size W2 hbx0) (by omega) (Below.refl _ _) (fun _ => rfl)
          (ChkI w id bi (some ⟨qb, qo, none⟩) ⟨qn, qt, qc⟩ c [D])
          (fun _ _ _ _ => False)
          ?hI (fun _ _ _ _ _ h => h.elim) ?h0
        case hI =>
          intro X pre A1 A2 h ho
          exact h.out ho (by omega) (fun D' hD' => by rw [List.mem_singleton.1 hD']; omega)
        case h0 =>
          intro X V hV hX
          exact HI3.out.below hV
        case hassign =>
          intro l x V K hK
          gi_wp2
          exact hK
        case hbody =>
          rintro l X pre x V hV hI hpre
          have c0 : V.cell? ⟨w.heap.size, x, none⟩ = some (.slice none 0 0) := (hI.2.1.cell x).trans (sec_field hpre)
          have HV := Lib.hid hI
          clear hI hz1
          gi_wp2_with (fail)
          gi_loopg [38, 39] 1 (fun g v38 _ wr => g = 1 ∧ v38 = .int .i64 0 ∧ V = wr)
          case atStart => exact ⟨rfl, rfl, rfl⟩
          case round =>
            obtain ⟨hg1, rfl, rfl⟩ := hrel
            gi_wp2_with (fail)
            exact ⟨KeepX.refl _ _ _ _ _, HV.out⟩
        case hstop =>
          rintro D X cd pre V hD _ _ h _
          exact h.elim
        case hdone =>
          rintro D2 X V hD hD2 hI hK
          have r0 := hI.2.2.1.cell 0
          have f0 := hI.2.2.1.frozen 0
          have HV := Lib.hid (And.intro hI (And.intro hK hD))
          clear hI hK
          gi_wp2_with (fail)
          obtain ⟨hI, hK, hD'⟩ := HV.out
          obtain ⟨hD1, hK1⟩ := hI.2.2.2 D (List.mem_singleton.2 rfl)
          have hne : D ≠ D2 := by omega
          have hw2 : w.heap.size + 1 < D2 := by omega
          have k1 : KeepK (fun i => i ≠ w.heap.size + 1) V (V.setCell ⟨w.heap.size + 1, 0, none⟩ (.int .i64 0)) := (KeepK.refl _ V).setCell (p := ⟨w.heap.size + 1, 0, none⟩) (fun i hi => hi) _
          have b1 := hI.2.2.1.set_ 0 (.int .i64 0)
          have hKa := (k1.block D2 (by show D2 ≠ _; omega)).trans hK
          have hKb := (k1.block D (by show D ≠ _; omega)).trans hK1
          have hbV : Below w.heap.size w (V.setCell ⟨w.heap.size + 1, 0, none⟩ (.int .i64 0)) := hI.1.setCell (by show w.heap.size ≤ w.heap.size + 1; omega) _
          generalize V.setCell ⟨w.heap.size + 1, 0, none⟩ (.int .i64 0) = Z at k1 b1 hKa hKb hbV ⊢
          have hKb2 : (Z.putObj D2 (.deferred none)).heap[D]? = some (.deferred (some [])) := (World.putObj_heap_other hne).trans hKb
          have b2 : Blk ((Z.putObj D2 (.deferred none)).putObj D (.deferred none)) (w.heap.size + 1) 28 _ := (World.putObj_heap_other (by omega)).trans ((World.putObj_heap_other (by omega)).trans b1)
          refine ⟨by simp, .inl ⟨_, _, rfl, run_takeDeferred hKa, by simp, .inl ⟨_, _, rfl, run_takeDeferred hKb2, _, res_c1 rfl _ _ ⟨w.heap.size + 1, 0, none⟩ (.int .i64 0) rfl (load_errno _ _ _ (b2.cell 0)), rfl, ?_⟩⟩⟩
          exact (hbV.trans (belowK_b (w := w) (Nat.le_refl _) Z D2 _ _ (by omega) hKa rfl rfl)).trans (belowK_b (w := w) (Nat.le_refl _) _ D _ _ (by omega) hKb2 rfl rfl)
end Go.Proofs.Ytgfpnkakglgokaa

namespace Go.Proofs.Ytgfpnkakglgokaa
open Go.RowKit Go.Shelf Go.Lib
attribute [local go_sem] Oper.semAt_some

/-- While a message is written: its box, the results' boxes, the writer and its box. -/
structure WrS (w : World) (id bi : Int) (A : Option Addr) (c : Nat) (V : World) (K : Nat → Prop) (b mb wb cnt : Nat) (l : Bs) (R : Rests) : Prop where
  wn : Wn K V b mb cnt 65535 l R
  kb : ∀ i, i < w.heap.size + 3 → K i
  kw : K wb
  bl : Below w.heap.size w V
  mB : Blk V w.heap.size 35 #[.int .u16 id, .int .u16 bi, .slice A 1 c, .slice none 0 0, .slice none 0 0, .slice none 0 0]
  r0 : Blk V (w.heap.size + 1) 9 #[.string ⟨#[]⟩]
  r1 : Blk V (w.heap.size + 2) 28 #[.int .i64 0]
  pp : Blk V wb 73 #[.pointer (some ⟨b, 0, none⟩)]
section
variable {w V V' : World} {id bi : Int} {A : Option Addr} {c : Nat} {K : Nat → Prop} {b mb wb cnt : Nat} {l : Bs} {R : Rests}
theorem WrS.fresh (h : WrS w id bi A c V K b mb wb cnt l R) (hb : Below V.heap.size V V') : WrS w id bi A c V' (fun i => K i ∨ (V.heap.size ≤ i ∧ i < V'.heap.size)) b mb wb cnt l R :=
  ⟨h.wn.fresh (KeepK.of_below hb fun i hi => hi.1), fun i hi => .inl (h.kb i hi), .inl h.kw, h.bl.trans (hb.mono h.bl.size), h.mB.below hb h.mB.lt, h.r0.below hb h.r0.lt, h.r1.below hb h.r1.lt, h.pp.below hb h.pp.lt⟩
theorem WrS.turn {cnt' : Nat} {l' : Bs} {R' : Rests} (h : WrS w id bi A c V K b mb wb cnt l R) (hn : Wn K V' b mb cnt' 65535 l' R') (hk : KeepK K V V') : WrS w id bi A c V' K b mb wb cnt' l' R' :=
  ⟨hn, h.kb, h.kw, h.bl.trans (hk.below fun i hi => h.kb i (by omega)), h.mB.keepK hk (h.kb _ (by omega)), h.r0.keepK hk (h.kb _ (by omega)), h.r1.keepK hk (h.kb _ (by omega)), h.pp.keepK hk h.kw⟩
theorem wnum_st (h : WrS w id bi A c V K b mb wb cnt l R) (n : Nat) (hn : n ≤ 65535) (hl : l.length ≤ 60000) :
    Calls Try.prog 23 #[.pointer (some ⟨b, 0, none⟩), .int .i64 2, .int .u64 (n : Int)] V fun e V' => e = .returned (.tuple #[]) ∧ WrS w id bi A c V' K b mb wb cnt (l ++ bigB n 2) R ∧ KeepK K V V' := by
  refine (wNum_any 2 (.inr (.inl rfl)) n (by omega) h.wn.1 (by omega) (by omega)).mono ?_
  rintro e V' ⟨rfl, h1, h2⟩
  rw [wput_fits (by rw [bigB_length]; omega)] at h1
  exact ⟨rfl, h.turn (h.wn.turn h1 h2) (h2.mono fun i hi => .inl hi), h2.mono fun i hi => .inl hi⟩
theorem wname_st (h : WrS w id bi A c V K b mb wb cnt l R) (n : ByteArray) (hn : isName n.data.toList = true) (hl : l.length ≤ 60000) (hc : cnt ≤ 1000) (hR : ∀ k p, R k = some p → p < 16384) :
    Calls Try.prog 24 #[.pointer (some ⟨b, 0, none⟩), .string n] V fun e V' => e = .returned (.tuple #[]) ∧ ∃ cnt', WrS w id bi A c V' K b mb wb cnt' (wname true (labs n.data.toList).1 l R).1 (wname true (labs n.data.toList).1 l R).2 ∧ KeepK K V V' := by
  have hsz : n.size ≤ 255 := by
    have := ((isName_iff _).1 hn).1
    have h2 : n.data.toList.length = n.size := by simp
    omega
  refine (wName_any n hn h.wn (by omega) (by omega) (by omega) hR).mono ?_
  rintro e V' ⟨rfl, ⟨c', _, h1⟩, h2⟩
  exact ⟨rfl, c', h.turn h1 h2, h2⟩
end
theorem res_cc {P : Program} {fn : Func} {p q : Tmp} {ty tz : TypeId} (h : fn.results = #[.cell p ty, .cell q tz]) (tmps : Array Value) (w : World) (a b : Addr) (v u : Value)
    (hp : tmps.getD p undef = .pointer (some a)) (hq : tmps.getD q undef = .pointer (some b)) (h1 : (loadVar ty a).run P w = .ok v w) (h2 : (loadVar tz b).run P w = .ok u w) :
    (results fn tmps).run P w = .ok (.tuple #[v, u]) w := by
  rw [results_cell_cell h, hp, hq]
  simp [asAddr, Result.andThen, h1, h2]
theorem load_stringW (w : World) (a : Addr) (v : Value) (h : w.cell? a = some v) : (loadVar 9 a).run Try.prog w = .ok v w := by
  simp [loadVar, go_sem, h, Try.isAgg9, Try.sizeOf9]
theorem info_intW : (Try.prog.info? 3).map (fun i => (i.zero, i.size, i.bytes)) = some (some (.int .i64 0), 1, 8) := by kernel_rfl
/-- The six numbers ahead. -/
def hvN (id bi : Nat) : List Nat := [id, bi, 1, 0, 0, 0]
def hvB (id bi k : Nat) : Bs := ((hvN id bi).take k).flatMap fun x => bigB x 2
/-- The bytes of a message of one question. -/
def wireB (id bi : Nat) (q : QRec) : Bs := (wname true (labs q.n.data.toList).1 (hvB id bi 6) (fun _ => none)).1 ++ bigB q.t.toNat 2 ++ bigB q.c.toNat 2
def WriteP (id bi : Nat) (q : QRec) (w : World) (e : Ending) (w' : World) : Prop := e = .returned (.tuple #[.string ⟨(wireB id bi q).toArray⟩, .int .i64 0]) ∧ Below w.heap.size w w'

set_option maxRecDepth 100000 in
set_option maxHeartbeats 4000000 in
theorem msgWr_any (id bi : Nat) (A : Option Addr) (q : QRec) (c : Nat) (w : World) (hq : QTabl w A [q]) (hn : isName q.n.data.toList = true) (hc : 1 ≤ c ∧ c ≤ maxLen) (hid : id ≤ 65535) (hbi : bi ≤ 65535) (ht : 0 ≤ q.t ∧ q.t ≤ 65535) (hcl : 0 ≤ q.c ∧ q.c ≤ 65535) :
    Calls Try.prog 8 #[(askM id bi A [q] c).val, .int .i64 65536] w (WriteP id bi q w) := by
  obtain ⟨n, hn8⟩ : ∃ n : Nat, 8 ≤ n := ⟨8, by omega⟩
  refine (callsIn_wide (n := n)).1 ?_
  have h1n : 1 ≤ n := by omega
  have hcm := hc.2
  unfold maxLen at hcm
  have HCK := Lib.hid (fun W (hW : Below w.heap.size w W) => (callsIn_wide (n := n - 1)).2 (msgChk_any id bi A q c W (hq.below hW) hn hc))
  obtain ⟨qb, qo, rfl, hqb, d0, d1, d2⟩ := hq.cells (k := 0) (e := q) rfl
  rw [Nat.zero_mul, Nat.add_zero] at d0 d1 d2
  have HQ := Lib.hid (fun W (hW : Below w.heap.size w W) => And.intro ((hW.cell (p := ⟨qb, qo, none⟩) hqb).trans d0) (And.intro ((hW.cell (p := ⟨qb, qo + 1, none⟩) hqb).trans d1) ((hW.cell (p := ⟨qb, qo + 2, none⟩) hqb).trans d2)))
  clear hq hqb d0 d1 d2
  obtain ⟨V0, hV0⟩ : ∃ V0, ((w.alloc (.cells #[.int .u16 (id : Int), .int .u16 (bi : Int), .slice (some ⟨qb, qo, none⟩) 1 c, .slice none 0 0, .slice none 0 0, .slice none 0 0] 35)).alloc (.cells #[.string ⟨#[]⟩] 9)).alloc (.cells #[.int .i64 0] 28) = V0 := ⟨_, rfl⟩
  have hz0 : V0.heap.size = w.heap.size + 3 := by rw [← hV0]; simp
  have hb0 : Below w.heap.size w V0 := by rw [← hV0]; exact (((Below.refl _ _).alloc (Nat.le_refl _) _).alloc (by simp) _).alloc (by simp; omega) _
  have hm0 : Blk V0 w.heap.size 35 #[.int .u16 (id : Int), .int .u16 (bi : Int), .slice (some ⟨qb, qo, none⟩) 1 c, .slice none 0 0, .slice none 0 0, .slice none 0 0] := by rw [← hV0]; exact ((Blk.new w _ _).alloc _).alloc _
  have hr0 : Blk V0 (w.heap.size + 1) 9 #[.string ⟨#[]⟩] := by
    rw [← hV0]
    have := Blk.new (w.alloc (.cells #[.int .u16 (id : Int), .int .u16 (bi : Int), .slice (some ⟨qb, qo, none⟩) 1 c, .slice none 0 0, .slice none 0 0, .slice none 0 0] 35)) 9 #[.string ⟨#[]⟩]
    rw [World.size_alloc] at this
    exact this.alloc _
  have hr1 : Blk V0 (w.heap.size + 2) 28 #[.int .i64 0] := by
    rw [← hV0]
    have := Blk.new ((w.alloc (.cells #[.int .u16 (id : Int), .int .u16 (bi : Int), .slice (some ⟨qb, qo, none⟩) 1 c, .slice none 0 0, .slice none 0 0, .slice none 0 0] 35)).alloc (.cells #[.string ⟨#[]⟩] 9)) 28 #[.int .i64 0]
    rw [World.size_alloc, World.size_alloc] at this
    exact this
  have HC0 := Lib.hid (HCK.out V0 hb0)
  have H0 := Lib.hid (And.intro hb0 (And.intro hm0 (And.intro hr0 hr1)))
  have m0 : V0.cell? ⟨w.heap.size, 0, none⟩ = some (.int .u16 (id : Int)) := hm0.cell 0
  have m1 : V0.cell? ⟨w.heap.size, 1, none⟩ = some (.int .u16 (bi : Int)) := hm0.cell 1
  have m2 : V0.cell? ⟨w.heap.size, 2, none⟩ = some (.slice (some ⟨qb, qo, none⟩) 1 c) := hm0.cell 2
  have m3 : V0.cell? ⟨w.heap.size, 3, none⟩ = some (.slice none 0 0) := hm0.cell 3
  have m4 : V0.cell? ⟨w.heap.size, 4, none⟩ = some (.slice none 0 0) := hm0.cell 4
  have m5 : V0.cell? ⟨w.heap.size, 5, none⟩ = some (.slice none 0 0) := hm0.cell 5
  clear hb0 hm0 hr0 hr1 HCK
  refine callsIn_of_wp_marks Try.func8 rfl trivial ?_ rfl
  simp only [Try.ntmps8, List.size_toArray, List.length_cons, List.length_nil, Nat.reduceAdd, Nat.reduceSub, Array.replicate_succ, Array.replicate_zero, List.push_toArray, List.append_toArray, List.nil_append, List.cons_append]
  dsimp only [MRec.val, askM, List.length_cons, List.length_nil] at HC0 ⊢
  gi_wp2_with (fail)
  refine ⟨trivial, HC0.out.mono ?_⟩
  rintro e V1 ⟨rfl, hb1⟩
  have HN := Lib.hid ((callsIn_wide (n := n - 1)).2 (wn_new 65535 V1))
  have H1 := Lib.hid hb1
  clear hb1 HC0 m0 m1 m2 m3 m4 m5 hV0
  gi_wp2_with (fail)
  refine ⟨trivial, HN.out.mono ?_⟩
  rintro e V2 ⟨b, mb, rfl, hwn, hb2⟩
  have hz1 := H1.out.size
  have hz2 := hb2.size
  obtain ⟨wb, hwb⟩ : ∃ wb, V2.heap.size = wb := ⟨_, rfl⟩
  have hb12 := H1.out.trans (hb2.mono H1.out.size)
  have hS3 : WrS w id bi (some ⟨qb, qo, none⟩) c (V2.alloc (.cells #[.pointer (some ⟨b, 0, none⟩)] 73)) (fun i => i < V1.heap.size ∨ (V2.heap.size ≤ i ∧ i < (V2.alloc (.cells #[.pointer (some ⟨b, 0, none⟩)] 73)).heap.size)) b mb wb 0 [] (fun _ => none) := by
    have ha : Below V2.heap.size V2 (V2.alloc (.cells #[.pointer (some ⟨b, 0, none⟩)] 73)) := (Below.refl _ _).alloc (Nat.le_refl _) _
    have hbb := hb12.trans (ha.mono hb12.size)
    refine ⟨hwn.fresh (KeepK.of_below ha fun i hi => hi.1), fun i hi => .inl (by omega), .inr ⟨by omega, by simp; omega⟩, H0.out.1.trans (hbb.mono (by omega)), H0.out.2.1.below hbb H0.out.2.1.lt, H0.out.2.2.1.below hbb H0.out.2.2.1.lt, H0.out.2.2.2.below hbb H0.out.2.2.2.lt, ?_⟩
    rw [← hwb]
    exact Blk.new _ _ _
  have HS3 := Lib.hid hS3
  have m0 : (V2.alloc (.cells #[.pointer (some ⟨b, 0, none⟩)] 73)).cell? ⟨w.heap.size, 0, none⟩ = some (.int .u16 (id : Int)) := hS3.mB.cell 0
  have m1 : (V2.alloc (.cells #[.pointer (some ⟨b, 0, none⟩)] 73)).cell? ⟨w.heap.size, 1, none⟩ = some (.int .u16 (bi : Int)) := hS3.mB.cell 1
  have m2 : (V2.alloc (.cells #[.pointer (some ⟨b, 0, none⟩)] 73)).cell? ⟨w.heap.size, 2, none⟩ = some (.slice (some ⟨qb, qo, none⟩) 1 c) := hS3.mB.cell 2
  have m3 : (V2.alloc (.cells #[.pointer (some ⟨b, 0, none⟩)] 73)).cell? ⟨w.heap.size, 3, none⟩ = some (.slice none 0 0) := hS3.mB.cell 3
  have m4 : (V2.alloc (.cells #[.pointer (some ⟨b, 0, none⟩)] 73)).cell? ⟨w.heap.size, 4, none⟩ = some (.slice none 0 0) := hS3.mB.cell 4
  have m5 : (V2.alloc (.cells #[.pointer (some ⟨b, 0, none⟩)] 73)).cell? ⟨w.heap.size, 5, none⟩ = some (.slice none 0 0) := hS3.mB.cell 5
  clear hS3 hwn hb2 hb12 HN
  gi_wp2_with (fail)
  obtain ⟨V4, hV4⟩ : ∃ V4, (V2.alloc (.cells #[.pointer (some ⟨b, 0, none⟩)] 73)).alloc (.cells #[.int .i64 (id : Int), .int .i64 (bi : Int), .int .i64 1, .int .i64 0, .int .i64 0, .int .i64 0] 75) = V4 := ⟨_, rfl⟩
  have hS4 : ∃ K, WrS w id bi (some ⟨qb, qo, none⟩) c V4 K b mb wb 0 (hvB id bi 0) (fun _ => none) := ⟨_, by rw [← hV4]; exact HS3.out.fresh ((Below.refl _ _).alloc (Nat.le_refl _) _)⟩
  have HS4 := Lib.hid hS4
  rw [hV4]
  have u0 : IntKind.u64.wrap (id : Int) = (id : Int) := by rw [IntKind.wrap_u64]; omega
  have u1 : IntKind.u64.wrap (bi : Int) = (bi : Int) := by rw [IntKind.wrap_u64]; omega
  have ix0 : ∀ W, (Instr.index 75 (.agg #[.int .i64 (id : Int), .int .i64 (bi : Int), .int .i64 1, .int .i64 0, .int .i64 0, .int .i64 0]) (.int .i64 0)).run Try.prog W = .ok (.int .i64 (id : Int)) W := fun W => by
    obtain ⟨i0, hi, hz0, hz1, hz2⟩ := info_parts info_intW
    exact run_index_arr (P := Try.prog) (T := 75) (j := 0) Try.underlying75 (by kernel_rfl) hi hz1 (by decide) rfl W
  have ix1 : ∀ W, (Instr.index 75 (.agg #[.int .i64 (id : Int), .int .i64 (bi : Int), .int .i64 1, .int .i64 0, .int .i64 0, .int .i64 0]) (.int .i64 1)).run Try.prog W = .ok (.int .i64 (bi : Int)) W := fun W => by
    obtain ⟨i0, hi, hz0, hz1, hz2⟩ := info_parts info_intW
    exact run_index_arr (P := Try.prog) (T := 75) (j := 1) Try.underlying75 (by kernel_rfl) hi hz1 (by decide) rfl W
  have ix2 : ∀ W, (Instr.index 75 (.agg #[.int .i64 (id : Int), .int .i64 (bi : Int), .int .i64 1, .int .i64 0, .int .i64 0, .int .i64 0]) (.int .i64 2)).run Try.prog W = .ok (.int .i64 1) W := fun W => by
    obtain ⟨i0, hi, hz0, hz1, hz2⟩ := info_parts info_intW
    exact run_index_arr (P := Try.prog) (T := 75) (j := 2) Try.underlying75 (by kernel_rfl) hi hz1 (by decide) rfl W
  have ix3 : ∀ W, (Instr.index 75 (.agg #[.int .i64 (id : Int), .int .i64 (bi : Int), .int .i64 1, .int .i64 0, .int .i64 0, .int .i64 0]) (.int .i64 3)).run Try.prog W = .ok (.int .i64 0) W := fun W => by
    obtain ⟨i0, hi, hz0, hz1, hz2⟩ := info_parts info_intW
    exact run_index_arr (P := Try.prog) (T := 75) (j := 3) Try.underlying75 (by kernel_rfl) hi hz1 (by decide) rfl W
  have ix4 : ∀ W, (Instr.index 75 (.agg #[.int .i64 (id : Int), .int .i64 (bi : Int), .int .i64 1, .int .i64 0, .int .i64 0, .int .i64 0]) (.int .i64 4)).run Try.prog W = .ok (.int .i64 0) W := fun W => by
    obtain ⟨i0, hi, hz0, hz1, hz2⟩ := info_parts info_intW
    exact run_index_arr (P := Try.prog) (T := 75) (j := 4) Try.underlying75 (by kernel_rfl) hi hz1 (by decide) rfl W
  have ix5 : ∀ W, (Instr.index 75 (.agg #[.int .i64 (id : Int), .int .i64 (bi : Int), .int .i64 1, .int .i64 0, .int .i64 0, .int .i64 0]) (.int .i64 5)).run Try.prog W = .ok (.int .i64 0) W := fun W => by
    obtain ⟨i0, hi, hz0, hz1, hz2⟩ := info_parts info_intW
    exact run_index_arr (P := Try.prog) (T := 75) (j := 5) Try.underlying75 (by kernel_rfl) hi hz1 (by decide) rfl W
  clear hS4 HS3 hV4 m0 m1 m2 m3 m4 m5
  gi_loopg [9, 42, 43, 44, 45, 46, 47, 48, 49] 7 (fun g _ v42 _ _ _ _ _ _ _ wr => ∃ k : Nat, v42 = .int .i64 (k : Int) ∧ g + k = 7 ∧ k ≤ 6 ∧ Aside (∃ K, WrS w id bi (some ⟨qb, qo, none⟩) c wr K b mb wb 0 (hvB id bi k) (fun _ => none)))
  case atStart => exact ⟨0, rfl, rfl, by omega, HS4.out⟩
  case round =>
    obtain ⟨k, rfl, hg, hk6, hS⟩ := hrel
    by_cases hlt : k < 6
    · have hk : k = 0 ∨ k = 1 ∨ k = 2 ∨ k = 3 ∨ k = 4 ∨ k = 5 := by omega
      obtain ⟨K, hS'⟩ := hS.out
      have p0 := hS'.pp.cell 0
      have HW := Lib.hid hS'
      clear hS hS' hlt hk6
      rcases hk with rfl | rfl | rfl | rfl | rfl | rfl
      · have HNU := Lib.hid ((callsIn_wide (n := n - 1)).2 (wnum_st HW.out id (by omega) (by simp [hvB, hvN, bigB_length])))
        rw [show hvB id bi 0 ++ bigB id 2 = hvB id bi 1 by simp [hvB, hvN]] at HNU
        gi_wp2_with (fail)
        refine ⟨trivial, HNU.out.mono ?_⟩
        rintro e u9 ⟨rfl, hS9, _⟩
        have HS9 := Lib.hid hS9
        clear hS9
        gi_wp2_with (fail)
        gi_roundg (gk - 1)
        case measure => omega
        case rel => exact ⟨1, by go_num, by omega, by omega, ⟨K, HS9.out⟩⟩
      · have HNU := Lib.hid ((callsIn_wide (n := n - 1)).2 (wnum_st HW.out bi (by omega) (by simp [hvB, hvN, bigB_length])))
        rw [show hvB id bi 1 ++ bigB bi 2 = hvB id bi 2 by simp [hvB, hvN]] at HNU
        gi_wp2_with (fail)
        refine ⟨trivial, HNU.out.mono ?_⟩
        rintro e u9 ⟨rfl, hS9, _⟩
        have HS9 := Lib.hid hS9
        clear hS9
        gi_wp2_with (fail)
        gi_roundg (gk - 1)
        case measure => omega
        case rel => exact ⟨2, by go_num, by omega, by omega, ⟨K, HS9.out⟩⟩
      · have HNU := Lib.hid ((callsIn_wide (n := n - 1)).2 (wnum_st HW.out 1 (by omega) (by simp [hvB, hvN, bigB_length])))
        rw [show hvB id bi 2 ++ bigB 1 2 = hvB id bi 3 by simp [hvB, hvN]] at HNU
        gi_wp2_with (fail)
        refine ⟨trivial, HNU.out.mono ?_⟩
        rintro e u9 ⟨rfl, hS9, _⟩
        have HS9 := Lib.hid hS9
        clear hS9
        gi_wp2_with (fail)
        gi_roundg (gk - 1)
        case measure => omega
        case rel => exact ⟨3, by go_num, by omega, by omega, ⟨K, HS9.out⟩⟩
      · have HNU := Lib.hid ((callsIn_wide (n := n - 1)).2 (wnum_st HW.out 0 (by omega) (by simp [hvB, hvN, bigB_length])))
        rw [show hvB id bi 3 ++ bigB 0 2 = hvB id bi 4 by simp [hvB, hvN]] at HNU
        gi_wp2_with (fail)
        refine ⟨trivial, HNU.out.mono ?_⟩
        rintro e u9 ⟨rfl, hS9, _⟩
        have HS9 := Lib.hid hS9
        clear hS9
        gi_wp2_with (fail)
        gi_roundg (gk - 1)
        case measure => omega
        case rel => exact ⟨4, by go_num, by omega, by omega, ⟨K, HS9.out⟩⟩
      · have HNU := Lib.hid ((callsIn_wide (n := n - 1)).2 (wnum_st HW.out 0 (by omega) (by simp [hvB, hvN, bigB_length])))
        rw [show hvB id bi 4 ++ bigB 0 2 = hvB id bi 5 by simp [hvB, hvN]] at HNU
        gi_wp2_with (fail)
        refine ⟨trivial, HNU.out.mono ?_⟩
        rintro e u9 ⟨rfl, hS9, _⟩
        have HS9 := Lib.hid hS9
        clear hS9
        gi_wp2_with (fail)
        gi_roundg (gk - 1)
        case measure => omega
        case rel => exact ⟨5, by go_num, by omega, by omega, ⟨K, HS9.out⟩⟩
      · have HNU := Lib.hid ((callsIn_wide (n := n - 1)).2 (wnum_st HW.out 0 (by omega) (by simp [hvB, hvN, bigB_length])))
        rw [show hvB id bi 5 ++ bigB 0 2 = hvB id bi 6 by simp [hvB, hvN]] at HNU
        gi_wp2_with (fail)
        refine ⟨trivial, HNU.out.mono ?_⟩
        rintro e u9 ⟨rfl, hS9, _⟩
        have HS9 := Lib.hid hS9
        clear hS9
        gi_wp2_with (fail)
        gi_roundg (gk - 1)
        case measure => omega
        case rel => exact ⟨6, by go_num, by omega, by omega, ⟨K, HS9.out⟩⟩
    · obtain rfl : k = 6 := by omega
      obtain ⟨K, hS'⟩ := hS.out
      have m2 : wr.cell? ⟨w.heap.size, 2, none⟩ = some (.slice (some ⟨qb, qo, none⟩) 1 c) := hS'.mB.cell 2
      have HW := Lib.hid hS'
      clear hS hS' hlt hk6 u0 u1 ix0 ix1 ix2 ix3 ix4 ix5
      gi_wp2_with (fail)
      have hS0 : ∃ K cnt R, WrS w id bi (some ⟨qb, qo, none⟩) c wr K b mb wb cnt (if 0 = 0 then hvB id bi 6 else wireB id bi q) R ∧ (0 = 0 → R = (fun _ => none) ∧ cnt = 0) := ⟨K, 0, _, HW.out, fun _ => ⟨rfl, rfl⟩⟩
      have HS0 := Lib.hid hS0
      obtain ⟨qn, qt, qc⟩ := q
      obtain ⟨tn, rfl⟩ : ∃ tn : Nat, qt = (tn : Int) := ⟨qt.toNat, by have h9 : 0 ≤ qt := ht.1; omega⟩
      obtain ⟨cn, rfl⟩ : ∃ cn : Nat, qc = (cn : Int) := ⟨qc.toNat, by have h9 : 0 ≤ qc := hcl.1; omega⟩
      have htn : tn ≤ 65535 := by have h9 : (tn : Int) ≤ 65535 := ht.2; omega
      have hcn : cn ≤ 65535 := by have h9 : (cn : Int) ≤ 65535 := hcl.2; omega
      have u2 : IntKind.u64.wrap (tn : Int) = (tn : Int) := by rw [IntKind.wrap_u64]; omega
      have u3 : IntKind.u64.wrap (cn : Int) = (cn : Int) := by rw [IntKind.wrap_u64]; omega
      have hl12 : (hvB id bi 6).length = 12 := by simp [hvB, hvN, bigB_length]
      clear ht hcl hS0 HW
      gi_loopg [11, 53, 54, 55, 56, 57, 58, 59, 60, 61, 62, 63, 64, 65, 66, 67, 68, 69, 70, 71] 2 (fun g _ v53 _ _ _ _ _ _ _ _ _ _ _ _ _ _ _ _ _ _ wr => ∃ k : Nat, v53 = .int .i64 (k : Int) ∧ g + k = 2 ∧ k ≤ 1 ∧ Aside (∃ K cnt R, WrS w id bi (some ⟨qb, qo, none⟩) c wr K b mb wb cnt (if k = 0 then hvB id bi 6 else wireB id bi ⟨qn, tn, cn⟩) R ∧ (k = 0 → R = (fun _ => none) ∧ cnt = 0)))
      case atStart => exact ⟨0, rfl, rfl, by omega, HS0.out⟩
      case round =>
        obtain ⟨k, rfl, hg, hk1, hS⟩ := hrel
        obtain ⟨K, cnt, R, hS', hR⟩ := hS.out
        by_cases hk0 : k = 0
        · subst hk0
          obtain ⟨rfl, rfl⟩ := hR rfl
          rw [if_pos rfl] at hS'
          obtain ⟨d0, d1, d2⟩ := HQ.out wr hS'.bl
          dsimp only at d0 d1 d2 hn
          have hwr : qb < wr.heap.size := World.block_lt_of_cell? _ _ d0
          have hp := hS'.pp.lt
          have p0 : (wr.alloc (.cells #[.string qn, .int .u16 (tn : Int), .int .u16 (cn : Int)] 49)).cell? ⟨wb, 0, none⟩ = some (.pointer (some ⟨b, 0, none⟩)) := (World.cell?_alloc_lt _ _ _ hp).trans (hS'.pp.cell 0)
          have hS1 := hS'.fresh ((Below.refl _ _).alloc (Nat.le_refl _) (.cells #[.string qn, .int .u16 (tn : Int), .int .u16 (cn : Int)] 49))
          have hqB : Blk (wr.alloc (.cells #[.string qn, .int .u16 (tn : Int), .int .u16 (cn : Int)] 49)) wr.heap.size 49 #[.string qn, .int .u16 (tn : Int), .int .u16 (cn : Int)] := Blk.new _ _ _
          have hKq : (fun i => K i ∨ (wr.heap.size ≤ i ∧ i < (wr.alloc (.cells #[.string qn, .int .u16 (tn : Int), .int .u16 (cn : Int)] 49)).heap.size)) wr.heap.size := .inr ⟨Nat.le_refl _, by simp⟩
          have HNM := Lib.hid ((callsIn_wide (n := n - 1)).2 (wname_st hS1 qn hn (by rw [hl12]; decide) (by decide) (fun k p h => by cases h)))
          have H1 := Lib.hid (And.intro hqB hKq)
          have hwl := (wname_more (pt := true) (R := fun _ => none) (labs_ok qn.data.toList) (OkR.none (hvB id bi 6)))
          have HWL := Lib.hid hwl
          clear hS hS' hS1 hqB hKq hR hwl
          gi_wp2_with (fail)
          refine ⟨trivial, HNM.out.mono ?_⟩
          rintro e u1 ⟨rfl, cnt1, hS2, hk2⟩
          have hq2 := H1.out.1.keepK hk2 H1.out.2
          have hl2 : (wname true (labs qn.data.toList).1 (hvB id bi 6) (fun _ => none)).1.length ≤ 300 := by
            obtain ⟨t, e1, _, e3, _⟩ := HWL.out
            have h3 : (mk (labs qn.data.toList).1).length = qn.data.toList.length := by rw [mk_labs hn]
            have h4 := ((isName_iff _).1 hn).1
            rw [e1, List.length_append, hl12]
            omega
          have HN1 := Lib.hid ((callsIn_wide (n := n - 1)).2 (wnum_st hS2 tn htn (by omega)))
          have p1 := hS2.pp.cell 0
          have c1 := hq2.cell 1
          have H2 := Lib.hid (And.intro hq2 (And.intro H1.out.2 hl2))
          clear hS2 hk2 hq2 HNM H1 p0 hl2
          gi_wp2_with (fail)
          refine ⟨trivial, HN1.out.mono ?_⟩
          rintro e u2' ⟨rfl, hS3, hk3⟩
          have hq3 := H2.out.1.keepK hk3 H2.out.2.1
          have HN2 := Lib.hid ((callsIn_wide (n := n - 1)).2 (wnum_st hS3 cn hcn (by rw [List.length_append, bigB_length]; have := H2.out.2.2; omega)))
          have p2 := hS3.pp.cell 0
          have c2 := hq3.cell 2
          clear hS3 hk3 hq3 HN1 p1 c1
          gi_wp2_with (fail)
          refine ⟨trivial, HN2.out.mono ?_⟩
          rintro e u3' ⟨rfl, hS4, hk4⟩
          have HS4' := Lib.hid hS4
          clear hS4 hk4 HN2 p2 c2
          gi_wp2_with (fail)
          gi_roundg 1
          case measure => omega
          case rel => exact ⟨1, rfl, rfl, by omega, ⟨_, _, _, HS4'.out, fun h => absurd h (by decide)⟩⟩
        · obtain rfl : k = 1 := by omega
          rw [if_neg (by decide)] at hS'
          have m0 : wr.cell? ⟨w.heap.size, 0, none⟩ = some (.int .u16 (id : Int)) := hS'.mB.cell 0
          have HV := Lib.hid hS'
          clear hS hS' hR
          gi_wp2_with (fail)
          refine ⟨trivial, (sections_in (n - 1) w.heap.size _).mono ?_⟩
          rintro e W2 ⟨rfl, rfl⟩
          gi_wp2_with (fail)
          have hbW : Below wr.heap.size wr (wr.alloc (.cells #[.pointer (some ⟨w.heap.size, 0, none⟩)] 82)) := (Below.refl _ _).alloc (Nat.le_refl _) _
          have hbx0 : Blk (wr.alloc (.cells #[.pointer (some ⟨w.heap.size, 0, none⟩)] 82)) wr.heap.size 82 #[.pointer (some ⟨w.heap.size, 0, none⟩)] := Blk.new _ _ _
          have hz1 : (wr.alloc (.cells #[.pointer (some ⟨w.heap.size, 0, none⟩)] 82)).heap.size = wr.heap.size + 1 := by simp
          generalize wr.alloc (.cells #[.pointer (some ⟨w.heap.size, 0, none⟩)] 82) = W2 at hbx0 hbW hz1 ⊢
          have hwl := HV.out.r1.lt
          have HBW := Lib.hid (And.intro hbW hz1)
          clear m0
          apply rangeM (gf := 51) (lb := #[.pointer (some ⟨wr.heap.size, 0, none⟩)]) rfl (enters_of Try.func51 (by kernel_rfl) rfl)
            (sections1_M wr.heap.size w.heap.size W2 hbx0) (by omega) (Below.refl _ _) (fun _ => rfl)
            (fun _ _ V => Below W2.heap.size W2 V)
            (fun _ _ _ _ => False)
            ?hI (fun _ _ _ _ _ h => h.elim) ?h0
          case hI =>
            intro X pre A1 A2 h ho
            exact h.trans ((out_keep ho).below fun i hi => ⟨by have := h.size; omega, .inl hi⟩)
          case h0 =>
            intro X V hV hX
            exact hV
          case hassign =>
            intro l x V K hK
            gi_wp2
            exact hK
          case hbody =>
            rintro l X pre x V hV hI hpre
            have hb8 : Below wr.heap.size wr V := HBW.out.1.trans (hI.mono HBW.out.1.size)
            have c0 : V.cell? ⟨w.heap.size, x, none⟩ = some (.slice none 0 0) := ((HV.out.mB.below hb8 HV.out.mB.lt).cell x).trans (sec_field hpre)
            have HI := Lib.hid hI
            clear hI hz1 hb8 hbW
            gi_wp2_with (fail)
            gi_loopg [78, 79] 1 (fun g v78 _ wr' => g = 1 ∧ v78 = .int .i64 0 ∧ V = wr')
            case atStart => exact ⟨rfl, rfl, rfl⟩
            case round =>
              obtain ⟨hg1, rfl, rfl⟩ := hrel
              gi_wp2_with (fail)
              exact ⟨KeepX.refl _ _ _ _ _, HI.out⟩
          case hstop =>
            rintro D X cd pre V hD _ _ h _
            exact h.elim
          case hdone =>
            rintro D X V hD hD2 hI hK
            have hS8 := HV.out.fresh (HBW.out.1.trans (hI.mono HBW.out.1.size))
            have hwl8 := hS8.r1.lt
            have HO := Lib.hid ((callsIn_wide (n := n - 1)).2 (wOut_any hS8.wn.1))
            have p0 := hS8.pp.cell 0
            have r0 := hS8.r0.cell 0
            have r1 := hS8.r1.cell 0
            have f0 := hS8.r0.frozen 0
            have f1 := hS8.r1.frozen 0
            have HZ := Lib.hid (And.intro hS8 (And.intro hK hD))
            have hDw : w.heap.size + 3 ≤ D := by omega
            clear hI hK hS8
            gi_wp2_with (fail)
            refine ⟨trivial, HO.out.mono ?_⟩
            rintro e V9 ⟨rfl, rfl⟩
            gi_wp2_with (fail)
            obtain ⟨hS8, hK, hD'⟩ := HZ.out
            have k1 : KeepK (fun i => i ≠ w.heap.size + 1 ∧ i ≠ w.heap.size + 2) V ((V.setCell ⟨w.heap.size + 1, 0, none⟩ (.string ⟨(wireB id bi ⟨qn, tn, cn⟩).toArray⟩)).setCell ⟨w.heap.size + 2, 0, none⟩ (.int .i64 0)) := ((KeepK.refl _ V).setCell (p := ⟨w.heap.size + 1, 0, none⟩) (fun i hi => hi.1) _).setCell (p := ⟨w.heap.size + 2, 0, none⟩) (fun i hi => hi.2) _
            have b0 : Blk ((V.setCell ⟨w.heap.size + 1, 0, none⟩ (.string ⟨(wireB id bi ⟨qn, tn, cn⟩).toArray⟩)).setCell ⟨w.heap.size + 2, 0, none⟩ (.int .i64 0)) (w.heap.size + 1) 9 #[.string ⟨(wireB id bi ⟨qn, tn, cn⟩).toArray⟩] := by
              have := (hS8.r0.set_ 0 (.string ⟨(wireB id bi ⟨qn, tn, cn⟩).toArray⟩)).far (p := ⟨w.heap.size + 2, 0, none⟩) (by show w.heap.size + 1 ≠ w.heap.size + 2; omega) (.int .i64 0)
              simpa using this
            have b1 : Blk ((V.setCell ⟨w.heap.size + 1, 0, none⟩ (.string ⟨(wireB id bi ⟨qn, tn, cn⟩).toArray⟩)).setCell ⟨w.heap.size + 2, 0, none⟩ (.int .i64 0)) (w.heap.size + 2) 28 #[.int .i64 0] := by
              have := (hS8.r1.far (p := ⟨w.heap.size + 1, 0, none⟩) (by show w.heap.size + 2 ≠ w.heap.size + 1; omega) (.string ⟨(wireB id bi ⟨qn, tn, cn⟩).toArray⟩)).set_ 0 (.int .i64 0)
              simpa using this
            have hbZ : Below w.heap.size w ((V.setCell ⟨w.heap.size + 1, 0, none⟩ (.string ⟨(wireB id bi ⟨qn, tn, cn⟩).toArray⟩)).setCell ⟨w.heap.size + 2, 0, none⟩ (.int .i64 0)) := hS8.bl.trans (k1.below fun i hi => ⟨by omega, by omega⟩)
            generalize (V.setCell ⟨w.heap.size + 1, 0, none⟩ (.string ⟨(wireB id bi ⟨qn, tn, cn⟩).toArray⟩)).setCell ⟨w.heap.size + 2, 0, none⟩ (.int .i64 0) = Z at k1 b0 b1 hbZ ⊢
            have hKa := (k1.block D (by constructor <;> omega)).trans hK
            have c0 : Blk (Z.putObj D (.deferred none)) (w.heap.size + 1) 9 _ := (World.putObj_heap_other (by omega)).trans b0
            have c1 : Blk (Z.putObj D (.deferred none)) (w.heap.size + 2) 28 _ := (World.putObj_heap_other (by omega)).trans b1
            exact ⟨by simp, .inl ⟨_, _, rfl, run_takeDeferred hKa, _, res_cc rfl _ _ ⟨w.heap.size + 1, 0, none⟩ ⟨w.heap.size + 2, 0, none⟩ _ _ rfl rfl (load_stringW _ _ _ (c0.cell 0)) (load_errno _ _ _ (c1.cell 0)), rfl, hbZ.trans (belowK_b (w := w) (Nat.le_refl _) Z D _ _ (by omega) hKa rfl rfl)⟩⟩
end Go.Proofs.Ytgfpnkakglgokaa

namespace Go.Proofs.Ytgfpnkakglgokaa
open Go.RowKit Go.Lib

theorem askStep_ok {l : Bs} {p p' : Nat} {q : QRec} (h : askStep l p = some (q, p')) : isName q.n.data.toList = true ∧ (0 ≤ q.t ∧ q.t ≤ 65535) ∧ 0 ≤ q.c ∧ q.c ≤ 65535 := by
  unfold askStep at h
  split at h
  · cases h
  · rename_i hb
    injection h with h
    injection h with h _
    subst h
    have hb' : (numM l (numM l (nameM l (p, false)).2 2).2 2).2.2 = false := by simpa using hb
    obtain ⟨h1, _, _⟩ := numM_ok hb'
    obtain ⟨h2, _, _⟩ := numM_ok h1
    have e1 := num2_lt l (nameM l (p, false)).2
    have e2 := num2_lt l (numM l (nameM l (p, false)).2 2).2
    refine ⟨?_, ⟨by show (0 : Int) ≤ ((numM l (nameM l (p, false)).2 2).1 : Int); omega, by show ((numM l (nameM l (p, false)).2 2).1 : Int) ≤ 65535; omega⟩, by show (0 : Int) ≤ ((numM l (numM l (nameM l (p, false)).2 2).2 2).1 : Int); omega, by show ((numM l (numM l (nameM l (p, false)).2 2).2 2).1 : Int) ≤ 65535; omega⟩
    show isName (nameM l (p, false)).1.toArray.toList = true
    unfold nameM at h2 ⊢
    rw [if_neg (by simp)] at h2 ⊢
    split at h2
    · rename_i hn
      rw [if_pos hn]
      simpa using hn
    · cases h2
theorem hvB_len (id bi : Nat) : (hvB id bi 6).length = 12 := by simp [hvB, hvN, bigB_length]
theorem hvB_eq (id bi : Nat) : hvB id bi 6 = bigB id 2 ++ (bigB bi 2 ++ (bigB 1 2 ++ (bigB 0 2 ++ (bigB 0 2 ++ bigB 0 2)))) := by simp [hvB, hvN]
theorem take2 {a r : Bs} (h : a.length = 2) : (a ++ r).take 2 = a := List.take_left' h
theorem drop2 {a r : Bs} {k : Nat} (h : a.length = 2) : (a ++ r).drop (2 + k) = r.drop k := by
  rw [List.drop_append, h, List.drop_eq_nil_of_le (by omega), show 2 + k - 2 = k by omega]; rfl
theorem head_wire {id bi : Nat} (hid : id ≤ 65535) (hbi : bi ≤ 65535) (r : Bs) :
    headN (hvB id bi 6 ++ r) 0 = id ∧ headN (hvB id bi 6 ++ r) 1 = bi ∧ headN (hvB id bi 6 ++ r) 2 = 1 ∧ headN (hvB id bi 6 ++ r) 3 = 0 ∧ headN (hvB id bi 6 ++ r) 4 = 0 ∧ headN (hvB id bi 6 ++ r) 5 = 0 := by
  have hl : ∀ x, (bigB x 2).length = 2 := fun x => bigB_length x 2
  have h0 : ∀ x y (s : Bs), x ≤ 65535 → (bigB x 2 ++ s).drop y = (bigB x 2 ++ s).drop y := fun _ _ _ _ => rfl
  unfold headN
  rw [hvB_eq]
  simp only [List.append_assoc]
  refine ⟨?_, ?_, ?_, ?_, ?_, ?_⟩
  · rw [show 2 * 0 = 0 from rfl, List.drop_zero, take2 (hl _), beN_bigB2 (by omega)]
  · rw [show 2 * 1 = 2 + 0 from rfl, drop2 (hl _), List.drop_zero, take2 (hl _), beN_bigB2 (by omega)]
  · rw [show 2 * 2 = 2 + (2 + 0) from rfl, drop2 (hl _), drop2 (hl _), List.drop_zero, take2 (hl _), beN_bigB2 (by omega)]
  · rw [show 2 * 3 = 2 + (2 + (2 + 0)) from rfl, drop2 (hl _), drop2 (hl _), drop2 (hl _), List.drop_zero, take2 (hl _), beN_bigB2 (by omega)]
  · rw [show 2 * 4 = 2 + (2 + (2 + (2 + 0))) from rfl, drop2 (hl _), drop2 (hl _), drop2 (hl _), drop2 (hl _), List.drop_zero, take2 (hl _), beN_bigB2 (by omega)]
  · rw [show 2 * 5 = 2 + (2 + (2 + (2 + (2 + 0)))) from rfl, drop2 (hl _), drop2 (hl _), drop2 (hl _), drop2 (hl _), drop2 (hl _), List.drop_zero, take2 (hl _), beN_bigB2 (by omega)]
theorem num_behind {a s : Bs} {x : Nat} (hx : x ≤ 65535) : numM (a ++ (bigB x 2 ++ s)) (a.length, false) 2 = (x, (a.length + 2, false)) := by
  unfold numM
  dsimp only
  rw [if_neg (by simp), if_pos (by rw [List.length_append, List.length_append, bigB_length]; omega), List.drop_left, take2 (bigB_length _ _), beN_bigB2 (by omega)]
/-- What was written is read. -/
theorem ask_wire {id bi tn cn : Nat} {qn : ByteArray} (hn : isName qn.data.toList = true) (ht : tn ≤ 65535) (hc : cn ≤ 65535) :
    ∃ t : Bs, wireB id bi ⟨qn, tn, cn⟩ = hvB id bi 6 ++ t ∧ t.length ≤ 259 ∧ 5 ≤ t.length ∧ askStep (wireB id bi ⟨qn, tn, cn⟩) 12 = some (⟨qn, tn, cn⟩, (wireB id bi ⟨qn, tn, cn⟩).length) := by
  obtain ⟨t, e1, e2, e3, e4, _⟩ := wname_more (pt := true) (R := fun _ => none) (labs_ok qn.data.toList) (OkR.none (hvB id bi 6))
  have hmk := mk_labs hn
  have h255 := ((isName_iff _).1 hn).1
  have hw : wireB id bi ⟨qn, tn, cn⟩ = (hvB id bi 6 ++ t) ++ (bigB tn 2 ++ bigB cn 2) := by
    unfold wireB
    dsimp only
    rw [e1]
    simp
  have hl12 := hvB_len id bi
  refine ⟨t ++ (bigB tn 2 ++ bigB cn 2), by rw [hw]; simp, by simp only [List.length_append, bigB_length]; rw [hmk] at e3; omega, by simp only [List.length_append, bigB_length]; omega, ?_⟩
  rw [hw]
  rw [hl12] at e4
  have hE : Enc ((hvB id bi 6 ++ t) ++ (bigB tn 2 ++ bigB cn 2)) 12 12 (labs qn.data.toList).1 (hvB id bi 6 ++ t).length := e4.more _
  have hr := nread_enc hE (by rw [hmk]; omega)
  rw [hmk] at hr
  have hnm : nameM ((hvB id bi 6 ++ t) ++ (bigB tn 2 ++ bigB cn 2)) (12, false) = (qn.data.toList, ((hvB id bi 6 ++ t).length, false)) := by
    unfold nameM
    dsimp only
    rw [if_neg (by simp), hr]
    dsimp only
    rw [if_pos hn]
    rfl
  have hn1 := num_behind (a := hvB id bi 6 ++ t) (s := bigB cn 2) ht
  have hn2 : numM ((hvB id bi 6 ++ t) ++ (bigB tn 2 ++ bigB cn 2)) ((hvB id bi 6 ++ t).length + 2, false) 2 = (cn, ((hvB id bi 6 ++ t).length + 2 + 2, false)) := by
    have := num_behind (a := (hvB id bi 6 ++ t) ++ bigB tn 2) (s := []) hc
    have h9 : ((hvB id bi 6 ++ t) ++ bigB tn 2) ++ (bigB cn 2 ++ []) = (hvB id bi 6 ++ t) ++ (bigB tn 2 ++ bigB cn 2) := by simp
    have h8 : ((hvB id bi 6 ++ t) ++ bigB tn 2).length = (hvB id bi 6 ++ t).length + 2 := by generalize hvB id bi 6 ++ t = Y; rw [List.length_append, bigB_length]
    rw [h9, h8] at this
    exact this
  unfold askStep
  rw [hnm]
  dsimp only
  rw [hn1]
  dsimp only
  rw [hn2]
  dsimp only
  rw [if_neg (by simp)]
  have e9 : (⟨qn.data.toList.toArray⟩ : ByteArray) = qn := by simp
  rw [e9]
  simp only [List.length_append, bigB_length]
theorem wire_yes {id bi tn cn : Nat} {qn : ByteArray} (hn : isName qn.data.toList = true) (ht : tn ≤ 65535) (hc : cn ≤ 65535) (hid : id ≤ 65535) (hbi : bi ≤ 65535)
    (hqr : bits .and .u16 (bi : Int) 32768 = 0) (hop : opN (bi : Int) = 0) (hrd : bits .and .u16 (bi : Int) 256 ≠ 0) (h1 : (cn : Int) = 1) (h2 : (tn : Int) ≠ 0) (h3 : (tn : Int) ≠ 41) (h4 : ¬ (251 ≤ (tn : Int) ∧ (tn : Int) ≤ 255)) :
    LookYes (wireB id bi ⟨qn, tn, cn⟩) ∧ (wireB id bi ⟨qn, tn, cn⟩).length ≤ 1000 ∧ askStep (wireB id bi ⟨qn, tn, cn⟩) 12 = some (⟨qn, tn, cn⟩, (wireB id bi ⟨qn, tn, cn⟩).length) := by
  obtain ⟨t, e1, e2, e3, e4⟩ := ask_wire (id := id) (bi := bi) hn ht hc
  have hh := head_wire hid hbi t
  rw [← e1] at hh
  obtain ⟨g0, g1, g2, g3, g4, g5⟩ := hh
  have hl : (wireB id bi ⟨qn, tn, cn⟩).length = 12 + t.length := by rw [e1, List.length_append, hvB_len]
  refine ⟨⟨⟨_, by omega, g2, g3, g4, g5, e4⟩, by rw [g1]; exact hqr, by rw [g1]; exact hop, by rw [g1]; exact hrd, fun q p hq => ?_⟩, by omega, e4⟩
  rw [e4] at hq
  injection hq with hq
  injection hq with hq _
  rw [← hq]
  exact ⟨h1, h2, h3, h4⟩
end Go.Proofs.Ytgfpnkakglgokaa
