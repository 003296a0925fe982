/- The walk of zone.see. Conditions: none. -/
import Derived.Test.YthnngndnpigjbaaGreatZnS
import Derived.Test.YthnngndnpigjbaaGreatZnT
import Derived.Deep.LoopGhost
namespace Go.Proofs.YthnngndnpigjbaaGreat
open Go.RowKit Go.Lib Go.Maps
attribute [local go_sem] Oper.semAt_some

/-- What see answers: some look, and whether the zone is right. -/
def SeeP (z : ByteArray) (A : Option Addr) (c : Nat) (xs : List RRec) (w : World) (e : Ending) (w' : World) : Prop :=
  (∃ sb nb : Nat, e = .returned (.tuple #[.agg #[.string z, .slice A xs.length c, .map (some sb), .map (some nb)], .bool (zoneB z.data.toList xs)])) ∧ Below w.heap.size w w'
/-- The boxes of a call of see, so many records taken. -/
structure SeeBx (w V : World) (z : ByteArray) (A : Option Addr) (len c m : Nat) (pre : List RRec) : Prop where
  below : Below w.heap.size w V
  res : Blk V (w.heap.size + 1) 59 #[.string ⟨#[]⟩, .slice none 0 0, .map none, .map none]
  lk : LkS V (w.heap.size + 1 + 1 + 1 + 1) (w.heap.size + 1 + 1) (w.heap.size + 1 + 1 + 1) z A len c m pre
section
variable {w V V' : World} {z : ByteArray} {A : Option Addr} {len c m : Nat} {pre : List RRec}
theorem SeeBx.made (w : World) (z : ByteArray) (A : Option Addr) (len c : Nat) :
    SeeBx w (((((w.alloc (.cells #[.string z, .slice A len c] 24)).alloc (.cells #[.string ⟨#[]⟩, .slice none 0 0, .map none, .map none] 59)).alloc (.map #[] 0)).alloc (.map #[] 0)).alloc (.cells #[.string z, .slice A len c, .map (some (w.heap.size + 1 + 1)), .map (some (w.heap.size + 1 + 1 + 1))] 59)) z A len c 0 [] := by
  obtain ⟨B, hB⟩ : ∃ B, w.alloc (.cells #[.string z, .slice A len c] 24) = B := ⟨_, rfl⟩
  have zB : B.heap.size = w.heap.size + 1 := by rw [← hB, World.size_alloc]
  have bB : Below w.heap.size w B := by rw [← hB]; exact (Below.refl _ _).alloc (Nat.le_refl _) _
  rw [hB]
  obtain ⟨C, hC⟩ : ∃ C, B.alloc (.cells #[.string ⟨#[]⟩, .slice none 0 0, .map none, .map none] 59) = C := ⟨_, rfl⟩
  have zC : C.heap.size = w.heap.size + 1 + 1 := by rw [← hC, World.size_alloc, zB]
  have bC : Below w.heap.size w C := by rw [← hC]; exact bB.alloc (by omega) _
  have rC : Blk C (w.heap.size + 1) 59 #[.string ⟨#[]⟩, .slice none 0 0, .map none, .map none] := by rw [← hC, ← zB]; exact Blk.new _ _ _
  rw [hC]
  obtain ⟨D, hD⟩ : ∃ D, C.alloc (.map #[] 0) = D := ⟨_, rfl⟩
  have zD : D.heap.size = w.heap.size + 1 + 1 + 1 := by rw [← hD, World.size_alloc, zC]
  have bD : Below w.heap.size w D := by rw [← hD]; exact bC.alloc (by omega) _
  have rD : Blk D (w.heap.size + 1) 59 #[.string ⟨#[]⟩, .slice none 0 0, .map none, .map none] := by rw [← hD]; exact rC.alloc _
  have sD : SaidM D (w.heap.size + 1 + 1) 0 [] := by rw [← hD, ← zC]; exact SaidM.made _
  rw [hD]
  obtain ⟨E, hE⟩ : ∃ E, D.alloc (.map #[] 0) = E := ⟨_, rfl⟩
  have zE : E.heap.size = w.heap.size + 1 + 1 + 1 + 1 := by rw [← hE, World.size_alloc, zD]
  have bE : Below w.heap.size w E := by rw [← hE]; exact bD.alloc (by omega) _
  have rE : Blk E (w.heap.size + 1) 59 #[.string ⟨#[]⟩, .slice none 0 0, .map none, .map none] := by rw [← hE]; exact rD.alloc _
  have sE : SaidM E (w.heap.size + 1 + 1) 0 [] := sD.keep (by rw [← hE]; exact Below.heap_alloc _ _ _ sD.lt)
  have nE : NamesM E (w.heap.size + 1 + 1 + 1) 0 [] := by rw [← hE, ← zD]; exact NamesM.made _
  rw [hE]
  refine ⟨bE.alloc (by omega) _, rE.alloc _, ⟨?_, sE.keep (Below.heap_alloc _ _ _ sE.lt), nE.keep (Below.heap_alloc _ _ _ nE.lt), by omega, by omega, by omega⟩⟩
  rw [← zE]
  exact Blk.new _ _ _
theorem SeeBx.low (h : SeeBx w V z A len c m pre) (hk : Below V.heap.size V V') : SeeBx w V' z A len c m pre :=
  ⟨h.below.trans (hk.mono h.below.size), h.res.below hk h.res.lt, h.lk.low hk⟩
theorem SeeBx.step {r : RRec} (h : SeeBx w V z A len c m pre) (hk : KeepK (fun i => i < V.heap.size ∧ i ≠ w.heap.size + 1 + 1 ∧ i ≠ w.heap.size + 1 + 1 + 1) V V')
    (hl : LkS V' (w.heap.size + 1 + 1 + 1 + 1) (w.heap.size + 1 + 1) (w.heap.size + 1 + 1 + 1) z A len c (m + 1) (pre ++ [r])) : SeeBx w V' z A len c (m + 1) (pre ++ [r]) := by
  have h1 := h.below.size
  have h2 := h.res.lt
  exact ⟨h.below.trans (hk.below fun i hi => by omega), h.res.keepK hk (by omega), hl⟩
theorem SeeBx.keep (h : SeeBx w V z A len c m pre) (hk : KeepK (fun i => i < V.heap.size ∧ i ≠ w.heap.size + 1 + 1 ∧ i ≠ w.heap.size + 1 + 1 + 1) V V') :
    Below w.heap.size w V' ∧ Blk V' (w.heap.size + 1) 59 #[.string ⟨#[]⟩, .slice none 0 0, .map none, .map none] ∧ Blk V' (w.heap.size + 1 + 1 + 1 + 1) 59 #[.string z, .slice A len c, .map (some (w.heap.size + 1 + 1)), .map (some (w.heap.size + 1 + 1 + 1))] := by
  have h1 := h.below.size
  have h2 := h.res.lt
  have h3 := h.lk.bx.lt
  exact ⟨h.below.trans (hk.below fun i hi => by omega), h.res.keepK hk (by omega), h.lk.bx.keepK hk (by omega)⟩
end
theorem see_store {w V' : World} (hb : Below w.heap.size w V') {T : TypeId} {x0 x1 x2 x3 : Value} (hr : Blk V' (w.heap.size + 1) T #[x0, x1, x2, x3]) (y0 y1 y2 y3 : Value) :
    Blk ((((V'.setCell ⟨w.heap.size + 1, 0, none⟩ y0).setCell ⟨w.heap.size + 1, 1, none⟩ y1).setCell ⟨w.heap.size + 1, 2, none⟩ y2).setCell ⟨w.heap.size + 1, 3, none⟩ y3) (w.heap.size + 1) T #[y0, y1, y2, y3] ∧ Below w.heap.size w ((((V'.setCell ⟨w.heap.size + 1, 0, none⟩ y0).setCell ⟨w.heap.size + 1, 1, none⟩ y1).setCell ⟨w.heap.size + 1, 2, none⟩ y2).setCell ⟨w.heap.size + 1, 3, none⟩ y3) := by
  have hl : w.heap.size ≤ w.heap.size + 1 := by omega
  refine ⟨?_, (((hb.setCell (p := ⟨w.heap.size + 1, 0, none⟩) hl _).setCell (p := ⟨w.heap.size + 1, 1, none⟩) hl _).setCell (p := ⟨w.heap.size + 1, 2, none⟩) hl _).setCell (p := ⟨w.heap.size + 1, 3, none⟩) hl _⟩
  have h9 := (((hr.set_ 0 y0).set_ 1 y1).set_ 2 y2).set_ 3 y3
  simpa using h9
theorem takesB_at {z : Bs} : ∀ (k : Nat) (xs pre : List RRec), (∀ i r, i < k → xs[i]? = some r → takeB z (pre ++ xs.take i) r = true) → takesB z pre xs = takesB z (pre ++ xs.take k) (xs.drop k)
  | 0, xs, pre, _ => by simp
  | k + 1, [], pre, _ => by simp
  | k + 1, x :: xs, pre, h => by
    have h0 := h 0 x (by omega) rfl
    simp only [List.take_zero, List.append_nil] at h0
    have h1 := takesB_at k xs (pre ++ [x]) (fun i r hi hr => by
      have := h (i + 1) r (by omega) (by simpa using hr)
      simpa using this)
    simp only [takesB, h0, Bool.true_and, List.take_succ_cons, List.drop_succ_cons]
    rw [h1]
    simp
set_option maxRecDepth 100000 in
set_option maxHeartbeats 4000000 in
theorem see_any (z : ByteArray) (A : Option Addr) (c : Nat) (xs : List RRec) (hz : z.size ≤ 1000) (hlen : xs.length ≤ 60) (hxs : ∀ r ∈ xs, (r.n.size ≤ 1000 ∧ r.d.size ≤ 5000) ∧ r.ok) (w : World) (hT : RTab w A xs) :
    Calls Tryz.prog 15 #[.agg #[.string z, .slice A xs.length c]] w (SeeP z A c xs w) := by
  have HH := Lib.hid (And.intro hz (And.intro hlen (And.intro hxs hT)))
  have HCK := Lib.hid (fun W => Check_any z (by unfold maxLen; omega) W)
  clear hz hlen hxs hT
  go_enter Tryz.func15, Tryz.ntmps15
  have hm1 : ∀ W : World, (Instr.makeMap 56 none).run Tryz.prog W = .ok (.map (some W.heap.size)) (W.alloc (.map #[] 0)) := fun W => rfl
  have hm2 : ∀ W : World, (Instr.makeMap 57 none).run Tryz.prog W = .ok (.map (some W.heap.size)) (W.alloc (.map #[] 0)) := fun W => rfl
  go_upto_region 2 with (fail)
  clear hm1 hm2
  obtain ⟨V, hVe⟩ : ∃ V, ((((w.alloc (.cells #[.string z, .slice A xs.length c] 24)).alloc (.cells #[.string ⟨#[]⟩, .slice none 0 0, .map none, .map none] 59)).alloc (.map #[] 0)).alloc (.map #[] 0)).alloc (.cells #[.string z, .slice A xs.length c, .map (some (w.heap.size + 1 + 1)), .map (some (w.heap.size + 1 + 1 + 1))] 59) = V := ⟨_, rfl⟩
  have hV := SeeBx.made w z A xs.length c
  rw [hVe] at hV ⊢
  clear hVe
  have u0 : V.cell? ⟨w.heap.size + 1 + 1 + 1 + 1, 0, none⟩ = some (.string z) := hV.lk.bx.cell 0
  have HV := Lib.hid hV
  clear hV
  rcases chk_cases z.data.toList with ⟨hn1, hn2⟩ | ⟨hn1, hn2⟩
  · rw [hn2] at HCK
    have HN := Lib.hid hn1
    clear hn1 hn2
    go_wp2_with (fail)
    with_reducible refine (HCK.out _).mono ?_
    rintro e V1 ⟨rfl, hb1⟩
    have hS1 := HV.out.low hb1
    have r0 := hS1.res.cell 0
    have r1 := hS1.res.cell 1
    have r2 := hS1.res.cell 2
    have r3 := hS1.res.cell 3
    have f0 := hS1.res.frozen 0
    have f1 := hS1.res.frozen 1
    have f2 := hS1.res.frozen 2
    have f3 := hS1.res.frozen 3
    have u0 := hS1.lk.bx.cell 0
    have u1 := hS1.lk.bx.cell 1
    have u2 := hS1.lk.bx.cell 2
    have u3 := hS1.lk.bx.cell 3
    have k256 : ¬ ((256 : Int) < (xs.length : Int)) := by have := HH.out.2.1; omega
    have HS1 := Lib.hid hS1
    clear hS1 hb1
    go_wp2_with (fail)
    clear r0 r1 r2 r3 f0 f1 f2 f3 u0 u1 u2 u3
    go_loopg [28] xs.length (fun gg v28 wr => ∃ k : Nat, v28 = .int .i64 (k : Int) ∧ Aside (gg + k = xs.length) ∧ Aside (SeeBx w wr z A xs.length c k (xs.take k)) ∧ Aside (∀ i r, i < k → xs[i]? = some r → takeB z.data.toList (xs.take i) r = true))
    case atStart => exact ⟨0, rfl, by show _ + 0 = _; rfl, by show SeeBx _ _ _ _ _ _ _ _; simpa using HS1.out, by intro i r h; omega⟩
    case round =>
      obtain ⟨k, rfl, hg, hS, hall⟩ := hrel
      by_cases hlt : k < xs.length
      · have hltI : (k : Int) < (xs.length : Int) := by omega
        obtain ⟨x, hx⟩ : ∃ x, xs[k]? = some x := ⟨_, List.getElem?_eq_getElem hlt⟩
        have hTr := HH.out.2.2.2.below hS.out.below
        obtain ⟨b', off', hA', hbl, d0, d1, d2, d3, d4⟩ := hTr.cells hx
        have hrd := HH.out.2.2.1 x (List.mem_of_getElem? hx)
        obtain ⟨W, hW⟩ : ∃ W, wr.alloc (.cells #[.string x.n, .int .u16 x.t, .int .u16 x.c, .int .u32 x.l, .string x.d] 33) = W := ⟨_, rfl⟩
        have hbW : Below wr.heap.size wr W := by rw [← hW]; exact (Below.refl _ _).alloc (Nat.le_refl _) _
        have hSW := hS.out.low hbW
        have hRR : Blk W wr.heap.size 33 #[.string x.n, .int .u16 x.t, .int .u16 x.c, .int .u32 x.l, .string x.d] := by rw [← hW]; exact Blk.new _ _ _
        have q0 := hRR.cell 0
        have q1 := hRR.cell 1
        have q2 := hRR.cell 2
        have q3 := hRR.cell 3
        have q4 := hRR.cell 4
        have HTK := Lib.hid (take_any (w.heap.size + 1 + 1 + 1 + 1) (w.heap.size + 1 + 1) (w.heap.size + 1 + 1 + 1) z A xs.length c k (xs.take k) x W hSW.lk hrd HH.out.1 (by have := HH.out.2.1; unfold maxLen; omega) (by rw [List.length_take]; have := HH.out.2.1; omega))
        have HX := Lib.hid (And.intro hx (And.intro hlt hSW))
        clear hx hlt hTr hrd hbW hSW hRR
        subst hA'
        dsimp only [RRec.val] at HTK
        cases htb : takeB z.data.toList (xs.take k) x with
        | true =>
          have HTB := Lib.hid htb
          go_wp2_with (fail)
          with_reducible refine HTK.out.mono ?_
          rintro e W2 ⟨rfl, hyes, hkp⟩
          rw [htb]
          have hS2 := HX.out.2.2.step hkp (hyes htb)
          have ht1 : xs.take (k + 1) = xs.take k ++ [x] := by rw [List.take_add_one, HX.out.1]; rfl
          have HS2 : RowKit.Hid (SeeBx w W2 z (some ⟨b', off', none⟩) xs.length c (k + 1) (xs.take (k + 1))) := Lib.hid (by rw [ht1]; exact hS2)
          clear hyes hkp hS2 ht1 htb d0 d1 d2 d3 d4 q0 q1 q2 q3 q4 hW HTK hbl
          have hw1 : IntKind.i64.wrap ((k : Int) + 1) = ((k + 1 : Nat) : Int) := by rw [IntKind.wrap_i64]; have := HX.out.2.1; have := HH.out.2.1; omega
          have HAL : RowKit.Hid (∀ i r, i < k + 1 → xs[i]? = some r → takeB z.data.toList (xs.take i) r = true) := Lib.hid (fun i r hi hr => by
            by_cases h : i = k
            · subst h
              rw [HX.out.1] at hr
              injection hr with hr
              rw [← hr]; exact HTB.out
            · exact hall.out i r (by omega) hr)
          go_wp2_with (fail)
          go_roundg (xs.length - (k + 1))
          case measure => have := hg.out; have := HX.out.2.1; omega
          case rel => exact ⟨k + 1, rfl, by show _ = _; have := HX.out.2.1; omega, HS2.out, HAL.out⟩
        | false =>
          have HTB := Lib.hid htb
          go_wp2_with (fail)
          with_reducible refine HTK.out.mono ?_
          rintro e W2 ⟨rfl, hyes, hkp⟩
          rw [htb]
          obtain ⟨hb2, hr2, hx2⟩ := HX.out.2.2.keep hkp
          have r0 := hr2.cell 0
          have r1 := hr2.cell 1
          have r2 := hr2.cell 2
          have r3 := hr2.cell 3
          have f0 := hr2.frozen 0
          have f1 := hr2.frozen 1
          have f2 := hr2.frozen 2
          have f3 := hr2.frozen 3
          have u0 := hx2.cell 0
          have u1 := hx2.cell 1
          have u2 := hx2.cell 2
          have u3 := hx2.cell 3
          have HB2 := Lib.hid (And.intro hb2 hr2)
          clear hyes hkp hb2 hr2 hx2 htb d0 d1 d2 d3 d4 q0 q1 q2 q3 q4 hW HTK hbl
          go_wp2_with (fail)
          obtain ⟨hs, hb⟩ := see_store HB2.out.1 HB2.out.2 (.string z) (.slice (some ⟨b', off', none⟩) xs.length c) (.map (some (w.heap.size + 1 + 1))) (.map (some (w.heap.size + 1 + 1 + 1)))
          have d0 := hs.cell 0
          have d1 := hs.cell 1
          have d2 := hs.cell 2
          have d3 := hs.cell 3
          have hzb : zoneB z.data.toList xs = false := by
            have h1 := takesB_at (z := z.data.toList) k xs [] (fun i r hi hr => hall.out i r hi hr)
            have h2 : xs.drop k = x :: xs.drop (k + 1) := by
              rw [List.drop_eq_getElem_cons HX.out.2.1]
              congr 1
              have := HX.out.1
              rw [List.getElem?_eq_getElem HX.out.2.1] at this
              injection this
            rw [h2, List.nil_append] at h1
            simp only [takesB, HTB.out, Bool.false_and] at h1
            simp [zoneB, h1]
          exact bodyPost_ret (v := .tuple #[.agg #[.string z, .slice (some ⟨b', off', none⟩) xs.length c, .map (some (w.heap.size + 1 + 1)), .map (some (w.heap.size + 1 + 1 + 1))], .bool false]) (by simp [results, Tryz.results15, go_sem, d0, d1, d2, d3]) rfl ⟨⟨_, _, by rw [hzb]⟩, hb⟩
      · have hkl : k = xs.length := by have := hg.out; omega
        have hltI : ¬ ((k : Int) < (xs.length : Int)) := by omega
        subst hkl
        rw [List.take_length] at hS
        have hSO := hS.out
        have HAL := Lib.hid hall.out
        clear hS hlt hg hall
        go_wp2_with (fail)
        rename_i K1 hK1
        obtain ⟨sd, hsd⟩ : ∃ sd, soundB z.data.toList xs = sd := ⟨_, rfl⟩
        have hzb : zoneB z.data.toList xs = sd := by
          have h1 := takesB_at (z := z.data.toList) xs.length xs [] (fun i r hi hr => HAL.out i r hi hr)
          simp only [List.drop_length, takesB] at h1
          have h2 : decide (xs.length ≤ 256) = true := by have := HH.out.2.1; simp; omega
          simp only [zoneB, HN.out, h1, h2, hsd, Bool.true_and]
        have REST : ∀ Wf, Below w.heap.size w Wf → Blk Wf (w.heap.size + 1) 59 #[.string z, .slice A xs.length c, .map (some (w.heap.size + 1 + 1)), .map (some (w.heap.size + 1 + 1 + 1))] → K1 { tmps := (((.agg #[.string z, .slice A xs.length c] : Value) :: .pointer (some ⟨w.heap.size, 0, none⟩) :: .pointer (some ⟨w.heap.size + 1, 0, none⟩) :: .bool sd :: .pointer (some ⟨w.heap.size + 1 + 1 + 1 + 1, 0, none⟩) :: undef :: u6 :: .agg #[.string z, .slice A xs.length c] :: .map (some (w.heap.size + 1 + 1)) :: .map (some (w.heap.size + 1 + 1 + 1)) :: .agg #[.string z, .slice A xs.length c, .map (some (w.heap.size + 1 + 1)), .map (some (w.heap.size + 1 + 1 + 1))] :: .pointer (some ⟨w.heap.size + 1 + 1 + 1 + 1, 0, none⟩) :: .pointer (some ⟨w.heap.size + 1 + 1 + 1 + 1, 0, none⟩) :: .string z :: .int .i64 0 :: .bool false :: .bool false :: .pointer (some ⟨w.heap.size + 1 + 1 + 1 + 1, 0, none⟩) :: .pointer (some ⟨w.heap.size + 1 + 1 + 1 + 1, 1, none⟩) :: .slice A xs.length c :: .int .i64 (xs.length : Int) :: .bool (decide ((256 : Int) < (xs.length : Int))) :: .bool (decide ((256 : Int) < (xs.length : Int))) :: undef :: .pointer (some ⟨w.heap.size + 1 + 1 + 1 + 1, 0, none⟩) :: .pointer (some ⟨w.heap.size + 1 + 1 + 1 + 1, 1, none⟩) :: .slice A xs.length c :: .int .i64 (xs.length : Int) :: .int .i64 (xs.length : Int) :: .bool false :: u30 :: u31 :: u32 :: u33 :: u34 :: u35 :: u36 :: .agg #[.string z, .slice A xs.length c, .map (some (w.heap.size + 1 + 1)), .map (some (w.heap.size + 1 + 1 + 1))] :: .bool sd :: []) : List Value).toArray, defers := [] } Wf := by
          intro Wf hb hs
          refine hK1 _ _ ?_
          clear hK1
          have d0 := hs.cell 0
          have d1 := hs.cell 1
          have d2 := hs.cell 2
          have d3 := hs.cell 3
          go_wp2_with (fail)
          exact bodyPost_ret (v := .tuple #[.agg #[.string z, .slice A xs.length c, .map (some (w.heap.size + 1 + 1)), .map (some (w.heap.size + 1 + 1 + 1))], .bool sd]) (by simp [results, Tryz.results15, go_sem, d0, d1, d2, d3]) rfl ⟨⟨_, _, by rw [hzb]⟩, hb⟩
        have HZ := Lib.hid (And.intro hsd hzb)
        clear hzb hK1
        have hSND : ∀ (X : World), LkS X (w.heap.size + 1 + 1 + 1 + 1) (w.heap.size + 1 + 1) (w.heap.size + 1 + 1 + 1) z A xs.length c xs.length xs → Calls Tryz.prog 33 #[.pointer (some ⟨w.heap.size + 1 + 1 + 1 + 1, 0, none⟩)] X fun e w' => e = .returned (.bool sd) ∧ Below X.heap.size X w' := fun X hX => by
          have h9 := sound_any _ _ _ z A xs.length c xs.length xs HH.out.1 (by have := HH.out.2.1; omega) (fun r hr => (HH.out.2.2.1 r hr).1.1) X hX
          rw [HZ.out.1] at h9
          exact h9
        have HSND := Lib.hid hSND
        clear hSND hsd
        obtain ⟨U, hU⟩ : ∃ U, wr.drew = U := ⟨_, rfl⟩
        have hSU : SeeBx w U z A xs.length c xs.length xs := by rw [← hU]; exact hSO.low ((Below.refl _ _).drew)
        clear hSO
        obtain ⟨C1, hC1⟩ : ∃ C1 : World → Prop, (fun W => Blk W (w.heap.size + 1 + 1 + 1 + 1) 59 #[.string z, .slice A xs.length c, .map (some (w.heap.size + 1 + 1)), .map (some (w.heap.size + 1 + 1 + 1))]) = C1 := ⟨_, rfl⟩
        have HC1 : RowKit.Hid (∀ W, C1 W → W.cell? ⟨w.heap.size + 1 + 1 + 1 + 1, 0, none⟩ = some (.string z) ∧ W.cell? ⟨w.heap.size + 1 + 1 + 1 + 1, 1, none⟩ = some (.slice A xs.length c) ∧ W.cell? ⟨w.heap.size + 1 + 1 + 1 + 1, 2, none⟩ = some (.map (some (w.heap.size + 1 + 1))) ∧ W.cell? ⟨w.heap.size + 1 + 1 + 1 + 1, 3, none⟩ = some (.map (some (w.heap.size + 1 + 1 + 1)))) := Lib.hid (fun W hW => by
          rw [← hC1] at hW
          exact ⟨hW.cell 0, hW.cell 1, hW.cell 2, hW.cell 3⟩)
        have hC0 : C1 U := by rw [← hC1]; exact hSU.lk.bx
        have HCI : RowKit.Hid (∀ W, Blk W (w.heap.size + 1 + 1 + 1 + 1) 59 #[.string z, .slice A xs.length c, .map (some (w.heap.size + 1 + 1)), .map (some (w.heap.size + 1 + 1 + 1))] → C1 W) := Lib.hid (fun W h => by rw [← hC1]; exact h)
        have HSU := Lib.hid hSU
        clear hSU hC1
        refine wp_region_class C1 (by kernel_rfl) ?_
        rw [hU]
        clear hU
        refine wpAnyP_take (i := 0) (v := (.agg #[.string z, .slice A xs.length c, .map (some (w.heap.size + 1 + 1)), .map (some (w.heap.size + 1 + 1 + 1))])) rfl (by kernel_rfl) (by kernel_rfl) (by kernel_rfl) (fun _ _ _ h => h) ?_ ⟨Or.inl ⟨by rfl, ?_⟩⟩ ?_
        · exact hC0
        · intro W hW; obtain ⟨c0, c1, c2, c3⟩ := HC1.out W hW; go_simp
        refine wpAnyP_ready (rs := [1]) (by kernel_rfl) (by simp) ?_
        refine AllReadyP.cons rfl (fun K hK => ?_) AllReadyP.nil
        go_simp
        refine (HSND.out _ HSU.out.lk).mono ?_
        rintro e W1 ⟨rfl, hb1⟩
        have hS1 := HSU.out.low hb1
        have hC1 := HCI.out W1 hS1.lk.bx
        refine hK _ _ hC1 ?_
        clear hK K
        have r0 := hS1.res.cell 0
        have r1 := hS1.res.cell 1
        have r2 := hS1.res.cell 2
        have r3 := hS1.res.cell 3
        have f0 := hS1.res.frozen 0
        have f1 := hS1.res.frozen 1
        have f2 := hS1.res.frozen 2
        have f3 := hS1.res.frozen 3
        obtain ⟨hs, hb⟩ := see_store hS1.below hS1.res (.string z) (.slice A xs.length c) (.map (some (w.heap.size + 1 + 1))) (.map (some (w.heap.size + 1 + 1 + 1)))
        have hC2 := HCI.out ((((W1.setCell ⟨w.heap.size + 1, 0, none⟩ (.string z)).setCell ⟨w.heap.size + 1, 1, none⟩ (.slice A xs.length c)).setCell ⟨w.heap.size + 1, 2, none⟩ (.map (some (w.heap.size + 1 + 1)))).setCell ⟨w.heap.size + 1, 3, none⟩ (.map (some (w.heap.size + 1 + 1 + 1)))) (by
          have hne : w.heap.size + 1 + 1 + 1 + 1 ≠ w.heap.size + 1 := by omega
          exact ((((hS1.lk.bx).far (p := ⟨w.heap.size + 1, 0, none⟩) hne _).far (p := ⟨w.heap.size + 1, 1, none⟩) hne _).far (p := ⟨w.heap.size + 1, 2, none⟩) hne _).far (p := ⟨w.heap.size + 1, 3, none⟩) hne _)
        have HSB := Lib.hid (And.intro hs hb)
        clear hs hb hS1 hb1
        refine wpAnyP_ready (rs := [2]) (by kernel_rfl) (by simp) ?_
        refine AllReadyP.cons rfl (fun K hK => ?_) AllReadyP.nil
        go_simp
        refine hK _ _ hC2 ?_
        clear hK K
        refine wpAnyP_ready (rs := [3]) (by kernel_rfl) (by simp) ?_
        refine AllReadyP.cons rfl (fun K hK => ?_) AllReadyP.nil
        go_simp
        refine hK _ _ hC2 ?_
        clear hK K
        refine wpAnyP_done (by kernel_rfl) ?_ _
        exact REST _ HSB.out.2 HSB.out.1
  · rw [hn2] at HCK
    have HN := Lib.hid hn1
    clear hn1 hn2
    go_wp2_with (fail)
    with_reducible refine (HCK.out _).mono ?_
    rintro e V1 ⟨rfl, hb1⟩
    have hS1 := HV.out.low hb1
    have r0 := hS1.res.cell 0
    have r1 := hS1.res.cell 1
    have r2 := hS1.res.cell 2
    have r3 := hS1.res.cell 3
    have f0 := hS1.res.frozen 0
    have f1 := hS1.res.frozen 1
    have f2 := hS1.res.frozen 2
    have f3 := hS1.res.frozen 3
    have u0 := hS1.lk.bx.cell 0
    have u1 := hS1.lk.bx.cell 1
    have u2 := hS1.lk.bx.cell 2
    have u3 := hS1.lk.bx.cell 3
    have HS1 := Lib.hid hS1
    clear hS1 hb1
    go_wp2_with (fail)
    obtain ⟨hs, hb⟩ := see_store HS1.out.below HS1.out.res (.string z) (.slice A xs.length c) (.map (some (w.heap.size + 1 + 1))) (.map (some (w.heap.size + 1 + 1 + 1)))
    have d0 := hs.cell 0
    have d1 := hs.cell 1
    have d2 := hs.cell 2
    have d3 := hs.cell 3
    have hzb : zoneB z.data.toList xs = false := by simp [zoneB, HN.out]
    exact bodyPost_ret (v := .tuple #[.agg #[.string z, .slice A xs.length c, .map (some (w.heap.size + 1 + 1)), .map (some (w.heap.size + 1 + 1 + 1))], .bool false]) (by simp [results, Tryz.results15, go_sem, d0, d1, d2, d3]) rfl ⟨⟨_, _, by rw [hzb]⟩, hb⟩
end Go.Proofs.YthnngndnpigjbaaGreat
