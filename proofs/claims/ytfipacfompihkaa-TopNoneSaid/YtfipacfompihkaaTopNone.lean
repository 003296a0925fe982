/- The walk of hardtacktop.TopNone. Conditions: none. -/
import Derived.Test.YtfipacfompihkaaTnP
import Derived.Test.YtfipacfompihkaaMsgSmall
import Derived.Test.YtfipacfompihkaaTopBegin
import Derived.Deep.DeepCutAuto
namespace Go.Proofs.Ytfipacfompihkaa
open Go.RowKit Go.Lib

/-- The three boxes of the arguments. -/
structure BX (m : MRec) (qn n : ByteArray) (qt qc t l : Int) (A : Option Addr) (len c : Nat) (b : Nat) (w : World) : Prop where
  mb : Blk w b 43 #[.int .u16 m.id, .int .u16 m.bi, .slice m.qA m.q.length m.qc, .slice m.sA m.s.length m.sc, .slice m.hA m.h.length m.hc, .slice m.eA m.e.length m.ec]
  qb : Blk w (b + 1) 46 #[.string qn, .int .u16 qt, .int .u16 qc]
  sb : Blk w (b + 1 + 1) 49 #[.string n, .int .u16 t, .int .u32 l, .slice A len c]
section
variable {m : MRec} {qn n : ByteArray} {qt qc t l : Int} {A : Option Addr} {len c b : Nat} {w w' : World}
theorem BX.below {B : Nat} (h : BX m qn n qt qc t l A len c b w) (hb : Below B w w') (hB : b + 3 ≤ B) : BX m qn n qt qc t l A len c b w' := ⟨h.mb.below hb (by omega), h.qb.below hb (by omega), h.sb.below hb (by omega)⟩
theorem BX.lt (h : BX m qn n qt qc t l A len c b w) : b + 3 ≤ w.heap.size := by have := h.sb.lt; omega
theorem BX.keepK {K : Nat → Prop} (h : BX m qn n qt qc t l A len c b w) (hk : KeepK K w w') (hK : K b ∧ K (b + 1) ∧ K (b + 1 + 1)) : BX m qn n qt qc t l A len c b w' := ⟨h.mb.keepK hk hK.1, h.qb.keepK hk hK.2.1, h.sb.keepK hk hK.2.2⟩
theorem bx_new (m : MRec) (qn n : ByteArray) (qt qc t l : Int) (A : Option Addr) (len c : Nat) (w : World) : Below w.heap.size w (((w.alloc (.cells #[.int .u16 m.id, .int .u16 m.bi, .slice m.qA m.q.length m.qc, .slice m.sA m.s.length m.sc, .slice m.hA m.h.length m.hc, .slice m.eA m.e.length m.ec] 43)).alloc (.cells #[.string qn, .int .u16 qt, .int .u16 qc] 46)).alloc (.cells #[.string n, .int .u16 t, .int .u32 l, .slice A len c] 49)) ∧ BX m qn n qt qc t l A len c w.heap.size (((w.alloc (.cells #[.int .u16 m.id, .int .u16 m.bi, .slice m.qA m.q.length m.qc, .slice m.sA m.s.length m.sc, .slice m.hA m.h.length m.hc, .slice m.eA m.e.length m.ec] 43)).alloc (.cells #[.string qn, .int .u16 qt, .int .u16 qc] 46)).alloc (.cells #[.string n, .int .u16 t, .int .u32 l, .slice A len c] 49)) := by
  obtain ⟨h1, h2, h3⟩ := boxed_all m qn qt qc w
  have hz : (m.boxed qn qt qc w).heap.size = w.heap.size + 1 + 1 := by unfold MRec.boxed; rw [World.size_alloc, World.size_alloc]
  have h4 := Blk.new (m.boxed qn qt qc w) 49 #[.string n, .int .u16 t, .int .u32 l, .slice A len c]
  rw [hz] at h4
  exact ⟨h1.alloc h1.size _, h2.alloc _, h3.alloc _, h4⟩
theorem BX.typed (h : BX m qn n qt qc t l A len c b w) (t' : Int) : BX m qn n qt qc t' l A len c b (w.setCell ⟨b + 1 + 1, 1, none⟩ (.int .u16 t')) :=
  ⟨h.mb.far (p := ⟨b + 1 + 1, 1, none⟩) (show b ≠ b + 1 + 1 by omega) _, h.qb.far (p := ⟨b + 1 + 1, 1, none⟩) (show b + 1 ≠ b + 1 + 1 by omega) _, by have := h.sb.set_ 1 (.int .u16 t'); simpa using this⟩
end
theorem CaV.far0 {w : World} {g mb room n : Nat} {L : Nat → Prop} (h : CaV w g mb room n L V0e) {p : Addr} (h1 : g ≠ p.block) (h2 : mb ≠ p.block) (h3 : ¬ L p.block) (u : Value) : CaV (w.setCell p u) g mb room n L V0e := by
  obtain ⟨rb, T, F, hc, hV⟩ := h
  have hF : ∀ s k, F s k = none := fun s k => by
    have h9 := hV s k
    cases hf : F s k with
    | none => rfl
    | some b => rw [hf] at h9; cases h9
  obtain ⟨G, m1, m2⟩ := hc.mp
  exact ⟨rb, T, F, ⟨hc.bx.far h1 u, hc.rg.far h3 u, hc.lr, ⟨G, m1.far h2 u, m2⟩, fun s k b hb => (by rw [hF] at hb; cases hb), hc.ne⟩, hV⟩
set_option maxRecDepth 100000 in
set_option maxHeartbeats 16000000 in
theorem topNone_law (w : World) (m : MRec) (qn : ByteArray) (qt qc : Int) (n : ByteArray) (st l : Int) (A : Option Addr) (xs : List ByteArray) (c : Nat) (now : Int) (hm : m.In w) (hok : m.Ok) (hq : qn.size ≤ maxLen) (hqt : 0 ≤ qt ∧ qt ≤ 65535)
    (hT : TTab w A (xs.map Value.string)) (hn : n.size ≤ maxLen) (hst : 0 ≤ st ∧ st ≤ 65535) (hl : 0 ≤ l ∧ l ≤ 4294967295) (hx : ∀ x ∈ xs, x.size ≤ maxLen) (hxc : xs.length ≤ c) (hcm : c ≤ maxLen) (hnow : -9223372036854775808 ≤ now ∧ now ≤ 9223372036854775807) :
    Calls Try.prog 4 #[m.val, .agg #[.string qn, .int .u16 qt, .int .u16 qc], .agg #[.string n, .int .u16 st, .int .u32 l, .slice A xs.length c], .int .i64 now] w fun e w' => e = .returned (.bool true) ∧ Below w.heap.size w w' := by
  have HA := Lib.hid (And.intro hm (And.intro hok (And.intro hq (And.intro hqt (And.intro (show STab w A xs from hT) (And.intro hn (And.intro hl hx)))))))
  have H1 := Lib.hid (bx_new m qn n qt qc st l A xs.length c w)
  have HSM := Lib.hid (fun W (hW : Below w.heap.size w W) => small6_any m W (hm.below hW) hok)
  unfold maxLen at hcm
  have hxI : (xs.length : Int) ≤ 9223372036854775807 := by omega
  clear hm hok hq hqt hT hn hst hl hx hxc hcm
  dsimp only [MRec.val] at *
  obtain ⟨W1, hW1⟩ : ∃ W1, ((w.alloc (.cells #[.int .u16 m.id, .int .u16 m.bi, .slice m.qA m.q.length m.qc, .slice m.sA m.s.length m.sc, .slice m.hA m.h.length m.hc, .slice m.eA m.e.length m.ec] 43)).alloc (.cells #[.string qn, .int .u16 qt, .int .u16 qc] 46)).alloc (.cells #[.string n, .int .u16 st, .int .u32 l, .slice A xs.length c] 49) = W1 := ⟨_, rfl⟩
  rw [hW1] at H1
  go_enter Try.func4, Try.ntmps4
  go_upto_region 1 with (fail)
  clear hW1
  go_wp2_with (fail)
  with_reducible refine (begins_any _).mono ?_
  rintro e w2 ⟨rfl, hb⟩
  have B2 := Lib.hid (And.intro (H1.out.1.trans (hb.mono H1.out.1.size)) (H1.out.2.below hb H1.out.2.lt))
  have a0 := B2.out.2.mb.cell 0; have a1 := B2.out.2.mb.cell 1; have a2 := B2.out.2.mb.cell 2; have a3 := B2.out.2.mb.cell 3; have a4 := B2.out.2.mb.cell 4; have a5 := B2.out.2.mb.cell 5
  clear hb H1
  go_wp2_with (fail)
  with_reducible refine (HSM.out _ B2.out.1).mono ?_
  rintro e w3 ⟨hsm, hb⟩
  have B3 := Lib.hid (And.intro (B2.out.1.trans (hb.mono B2.out.1.size)) (B2.out.2.below hb B2.out.2.lt))
  have s3 := B3.out.2.sb.cell 3
  clear hb a0 a1 a2 a3 a4 a5 B2
  rcases hsm with rfl | ⟨rfl, hsm⟩
  · go_wp2_with (fail)
    go_ret
    exact ⟨rfl, B3.out.1⟩
  have HS := Lib.hid hsm
  clear hsm HSM
  by_cases h70 : 70 < xs.length
  · have h7I : (70 : Int) < (xs.length : Int) := by omega
    clear h70
    go_wp2_with (fail)
    go_ret
    exact ⟨rfl, B3.out.1⟩
  have h7I : ¬ (70 : Int) < (xs.length : Int) := by omega
  by_cases hn0 : now < 0
  · clear h70
    go_wp2_with (fail)
    go_ret
    exact ⟨rfl, B3.out.1⟩
  by_cases hn1 : 1099511627776 < now
  · clear h70
    go_wp2_with (fail)
    go_ret
    exact ⟨rfl, B3.out.1⟩
  have HN := Lib.hid (show (0 ≤ now ∧ now ≤ 1099511627776) ∧ xs.length ≤ 70 by omega)
  have HNEW := Lib.hid (show Calls Try.prog 15 #[.int .i64 9] w3 (NewP 9 w3) from newCa_any 9 (by decide) w3)
  clear h70
  go_wp2_with (fail)
  with_reducible refine HNEW.out.mono ?_
  rintro e w4 ⟨g, mb, L, rfl, hca, hb4, hg, hmb, hLL⟩
  have hB4 := B3.out.2.below hb4 B3.out.2.lt
  have H4 := Lib.hid (And.intro hca (And.intro (B3.out.1.trans (hb4.mono B3.out.1.size)) (And.intro hB4 (And.intro hg (And.intro hmb (And.intro hLL hb4.size))))))
  have z1 := hB4.sb.frozen 1
  have s0 := hB4.sb.cell 0; have s1 := hB4.sb.cell 1; have s2 := hB4.sb.cell 2
  clear s3
  have s3 := hB4.sb.cell 3
  clear hca hb4 hg hmb hLL hB4 HNEW
  go_wp2_with (fail)
  obtain ⟨W5, hW5⟩ : ∃ W5, w4.setCell ⟨w.heap.size + 1 + 1, 1, none⟩ (.int .u16 2) = W5 := ⟨_, rfl⟩
  rw [hW5]
  have hL3 := B3.out.2.lt
  have hB5 : BX m qn n qt qc 2 l A xs.length c w.heap.size W5 := by rw [← hW5]; exact H4.out.2.2.1.typed 2
  have hc5 : CaV W5 g mb 9 0 L V0e := by
    rw [← hW5]
    refine CaV.far0 H4.out.1 ?_ ?_ (fun h => ?_) _
    · have := H4.out.2.2.2.1; dsimp only; omega
    · have := H4.out.2.2.2.2.1; dsimp only; omega
    · have := H4.out.2.2.2.2.2.1 _ h; dsimp only at this; omega
  have hb5 : Below w.heap.size w W5 := by rw [← hW5]; exact H4.out.2.1.setCell (p := ⟨w.heap.size + 1 + 1, 1, none⟩) (by dsimp only; omega) _
  have z5 : W5.heap.size = w4.heap.size := by rw [← hW5]; simp [World.setCell]
  have hwl : ∀ i, i < w3.heap.size → ¬ L i ∧ i ≠ mb := fun i hi => ⟨fun h => by have := H4.out.2.2.2.2.2.1 i h; omega, by have := H4.out.2.2.2.2.1; omega⟩
  have hput := put_any hc5 (by omega) (by omega) n 2 l A xs c 2 now HA.out.2.2.2.2.2.1 (by omega) HA.out.2.2.2.2.2.2.1 (HA.out.2.2.2.2.1.below hb5) (fun a ha h0 => hwl _ (by
      obtain ⟨b', off', hA', hlt, _⟩ := HA.out.2.2.2.2.1 (by simpa using h0)
      rw [ha] at hA'
      injection hA' with hA'
      rw [hA']
      dsimp only
      omega)) HA.out.2.2.2.2.2.2.2 (by have := HN.out.2; omega) (by omega) (by omega)
  have HPUT := Lib.hid hput
  dsimp only [setV] at HPUT
  have H5 := Lib.hid (And.intro hB5 (And.intro hb5 (And.intro (show w3.heap.size ≤ W5.heap.size by have := H4.out.2.2.2.2.2.2; omega) (And.intro hL3 hwl))))
  clear hW5 hB5 hc5 hb5 z5 hL3 hwl hput s0 s1 s2 s3 z1
  with_reducible refine HPUT.out.mono ?_
  rintro e w6 hp6
  obtain ⟨held, rfl, L1, V1, hc6, hv6, hL6, hk6⟩ := putN HN.out.1 HA.out.2.2.2.2.2.2.1.1 hp6
  have hB6 := H5.out.1.keepK hk6 ⟨⟨by have := H5.out.2.2.1; have := H5.out.2.2.2.1; omega, H5.out.2.2.2.2 _ (by have := H5.out.2.2.2.1; omega)⟩, ⟨by have := H5.out.2.2.1; have := H5.out.2.2.2.1; omega, H5.out.2.2.2.2 _ (by have := H5.out.2.2.2.1; omega)⟩, ⟨by have := H5.out.2.2.1; have := H5.out.2.2.2.1; omega, H5.out.2.2.2.2 _ (by have := H5.out.2.2.2.1; omega)⟩⟩
  have hb6 : Below w.heap.size w w6 := ((KeepK.of_below (K := fun i => i < w.heap.size) H5.out.2.1 fun i hi => hi).trans (hk6.mono fun i hi => ⟨by have := H5.out.2.1.size; omega, H5.out.2.2.2.2 i (by have := H5.out.2.2.2.1; omega)⟩)).below fun i hi => hi
  have hL6' : ∀ i, L1 i → w3.heap.size ≤ i := fun i h => by
    rcases hL6 i h with h | h
    · exact H4.out.2.2.2.2.2.1 i h
    · have := H5.out.2.2.1; omega
  have H6 := Lib.hid (And.intro hc6 (And.intro hv6 (And.intro hL6' (And.intro hB6 (And.intro hb6 (show w3.heap.size ≤ w6.heap.size from Nat.le_trans H5.out.2.2.1 hk6.size))))))
  have c0 : ∀ p : BelowOf w6, p.X.cell? ⟨w.heap.size, 0, none⟩ = some (.int .u16 m.id) := fun p => (hB6.mb.low p).cell 0
  have c1 : ∀ p : BelowOf w6, p.X.cell? ⟨w.heap.size, 1, none⟩ = some (.int .u16 m.bi) := fun p => (hB6.mb.low p).cell 1
  have c2 : ∀ p : BelowOf w6, p.X.cell? ⟨w.heap.size, 2, none⟩ = some (.slice m.qA m.q.length m.qc) := fun p => (hB6.mb.low p).cell 2
  have c3 : ∀ p : BelowOf w6, p.X.cell? ⟨w.heap.size, 3, none⟩ = some (.slice m.sA m.s.length m.sc) := fun p => (hB6.mb.low p).cell 3
  have c4 : ∀ p : BelowOf w6, p.X.cell? ⟨w.heap.size, 4, none⟩ = some (.slice m.hA m.h.length m.hc) := fun p => (hB6.mb.low p).cell 4
  have c5 : ∀ p : BelowOf w6, p.X.cell? ⟨w.heap.size, 5, none⟩ = some (.slice m.eA m.e.length m.ec) := fun p => (hB6.mb.low p).cell 5
  have d0 : ∀ p : BelowOf w6, p.X.cell? ⟨w.heap.size + 1, 0, none⟩ = some (.string qn) := fun p => (hB6.qb.low p).cell 0
  have d1 : ∀ p : BelowOf w6, p.X.cell? ⟨w.heap.size + 1, 1, none⟩ = some (.int .u16 qt) := fun p => (hB6.qb.low p).cell 1
  have d2 : ∀ p : BelowOf w6, p.X.cell? ⟨w.heap.size + 1, 2, none⟩ = some (.int .u16 qc) := fun p => (hB6.qb.low p).cell 2
  have d3 : ∀ p : BelowOf w6, p.X.cell? ⟨w.heap.size + 1 + 1, 0, none⟩ = some (.string n) := fun p => (hB6.sb.low p).cell 0
  have hfits : ∀ r : RRec, r.small → r.fits := fun r h => ⟨by have := h.1; unfold maxLen; omega, by have := h.2; omega⟩
  have HASK := Lib.hid (fun W (hW : Below w.heap.size w W) => (show AskOk m qn n W from ⟨HA.out.1.below hW, fun r hr => hfits r (HS.out.sh r hr), HS.out.lh, HA.out.2.2.1, HA.out.2.2.2.2.2.1⟩))
  obtain ⟨b1, hb1⟩ : ∃ b, (decide (codeM m = 3) && (soaOf m qn n).isSome) = b := ⟨_, rfl⟩
  obtain ⟨b2, hb2⟩ : ∃ b, (decide (codeM m = 0) && ((soaOf m qn n).isSome && !(m.s.find? (typeB qn.data.toList qt)).isSome)) = b := ⟨_, rfl⟩
  have HNM := Lib.hid (fun p : BelowOf w6 => absName_any m qn n qt qc p.X (HASK.out _ (hb6.trans (p.h.mono hb6.size))))
  have HTY := Lib.hid (fun p : BelowOf w6 => absType_any m qn n qt qc p.X (HASK.out _ (hb6.trans (p.h.mono hb6.size))) (fun r hr => hfits r (HS.out.ss r hr)) HS.out.ls)
  rw [hb1] at HNM
  rw [hb2] at HTY
  have HBB := Lib.hid (And.intro hb1 hb2)
  dsimp only [MRec.val] at HNM HTY
  clear hp6 hc6 hv6 hL6 hk6 hB6 hb6 hL6' hfits hb1 hb2 HPUT
  go_wp2_with (fail)
  refine wp_region_low (by kernel_rfl) (by kernel_rfl) ?_
  repeat (refine low_step (fun K hK => ?_); go_simp; first | (refine hK _ ?_; clear hK K) | (apply Exists.intro; refine ⟨fun _ => ?_, hK _ ?_⟩; (first | (go_at_call 17; exact calls_low (HNM.out _)) | (go_at_call 18; exact calls_low (HTY.out _))); clear hK K))
  refine low_nil ?_
  rintro ⟨w7, hb7⟩
  dsimp only
  clear c0 c1 c2 c3 c4 c5 d0 d1 d2 d3 HNM HTY
  have hB7 := H6.out.2.2.2.1.below hb7 H6.out.2.2.2.1.lt
  have hbw7 := H6.out.2.2.2.2.1.trans (hb7.mono H6.out.2.2.2.2.1.size)
  have H7 := Lib.hid (And.intro (H6.out.1.low hb7) (And.intro hB7 (And.intro hbw7 (Nat.le_trans H6.out.2.2.2.2.2 hb7.size))))
  have a0 := hB7.mb.cell 0; have a1 := hB7.mb.cell 1; have a2 := hB7.mb.cell 2; have a3 := hB7.mb.cell 3; have a4 := hB7.mb.cell 4; have a5 := hB7.mb.cell 5
  have e0 := hB7.qb.cell 0; have e1 := hB7.qb.cell 1; have e2 := hB7.qb.cell 2
  have s0 := hB7.sb.cell 0
  have HTT := Lib.hid (absTTL_any m qn n qt qc w7 (HASK.out w7 hbw7))
  obtain ⟨tt, cc, htt, httr⟩ := ttl_shape (soaOf m qn n)
  rw [htt] at HTT
  dsimp only [MRec.val] at HTT
  have HTR := Lib.hid httr
  clear hb7 hB7 hbw7 htt httr
  go_wp2_with (fail)
  with_reducible refine HTT.out.mono ?_
  rintro e w8 ⟨rfl, hb8⟩
  have hB8 := H7.out.2.1.below hb8 H7.out.2.1.lt
  have H8 := Lib.hid (And.intro (H7.out.1.low hb8) (And.intro hB8 (And.intro (H7.out.2.2.1.trans (hb8.mono H7.out.2.2.1.size)) (Nat.le_trans H7.out.2.2.2 hb8.size))))
  clear a0 a1 a2 a3 a4 a5 e0 e1 e2 s0
  have e0 := hB8.qb.cell 0; have e1 := hB8.qb.cell 1
  clear hb8 hB8 HTT H7
  cases hbb : (b1 || b2) with
  | false =>
    have h1 : b1 = false := by cases b1 <;> simp_all
    have h2 : b2 = false := by cases b2 <;> simp_all
    subst h1 h2
    clear hbb
    go_wp2_with (fail)
    go_ret
    exact ⟨rfl, H8.out.2.2.1⟩
  | true =>
    have hsoa : ∃ r, soaOf m qn n = some r := by
      have hb := HBB.out
      cases h : soaOf m qn n with
      | some r => exact ⟨r, rfl⟩
      | none =>
        rw [h] at hb
        simp only [Option.isSome_none, Bool.and_false, Bool.false_and] at hb
        rw [← hb.1, ← hb.2] at hbb
        cases hbb
    obtain ⟨r, hr⟩ := hsoa
    obtain ⟨hrm, hr6, hwi, hqn⟩ := soa_says hr
    obtain ⟨hcc, htt⟩ := HTR.out r hr hr6 (HA.out.2.1.oh r hrm).2.2.2.1
    subst hcc
    have HW := Lib.hid (And.intro hwi (And.intro hqn htt))
    have HNO := Lib.hid (none_any H8.out.1 (by omega) (by omega) qn qt tt now b1 HA.out.2.2.1 hqn HA.out.2.2.2.1 (by omega) (by omega))
    clear hr hrm hr6 hwi hqn HTR HBB
    by_cases ht0 : tt = 0
    · subst ht0
      cases b1 with
      | true =>
        clear hbb
        go_wp2_with (fail)
        with_reducible refine HNO.out.mono ?_
        rintro e w9 hp9
        obtain ⟨rfl, L2, V2, hc9, hv9, hL9, hk9⟩ := noneN H6.out.2.1 HN.out.1 HW.out.2.2 hp9
        rw [show putB 0 qt true = false from by unfold putB; simp]
        have hfar : ∀ i, i < w3.heap.size → i < w8.heap.size ∧ ¬ L1 i ∧ i ≠ mb := fun i hi => ⟨Nat.lt_of_lt_of_le hi H8.out.2.2.2, fun h => by have := H6.out.2.2.1 i h; omega, (H5.out.2.2.2.2 i hi).2⟩
        have hl3 := H5.out.2.2.2.1
        have hB9 := H8.out.2.1.keepK hk9 ⟨hfar _ (by omega), hfar _ (by omega), hfar _ (by omega)⟩
        have hb9 : Below w.heap.size w w9 := ((KeepK.of_below (K := fun i => i < w.heap.size) H8.out.2.2.1 fun i hi => hi).trans (hk9.mono fun i hi => hfar i (by omega))).below fun i hi => hi
        have hL9' : ∀ i, L2 i → w3.heap.size ≤ i := fun i h => by
          rcases hL9 i h with h | h
          · exact H6.out.2.2.1 i h
          · have := H8.out.2.2.2; omega
        have hz9 := Nat.le_trans H8.out.2.2.2 hk9.size
        clear e0 e1
        have e0 := hB9.qb.cell 0; have e1 := hB9.qb.cell 1
        have H9 := Lib.hid (And.intro hc9 (And.intro hv9 (And.intro hL9' (And.intro hB9 (And.intro hb9 (And.intro hz9 hl3))))))
        have HGET := Lib.hid (get_any hc9 qn HA.out.2.2.1 _ 4 now HA.out.2.2.2.1 (by have := HN.out.1; omega))
        clear hp9 hc9 hv9 hL9 hk9 hfar hB9 hb9 hL9' hz9 hl3 HNO
        go_wp2_with (fail)
        with_reducible refine HGET.out.mono ?_
        rintro e w10 ⟨hge, hc10, hk10⟩
        obtain ⟨n', t', l', A', len', c', rk', no', nm', ok', rfl, hgn⟩ := gotN H9.out.2.1 HW.out.2.2 hge
        have hfar : ∀ i, i < w3.heap.size → i < w9.heap.size ∧ ¬ L2 i := fun i hi => ⟨Nat.lt_of_lt_of_le hi H9.out.2.2.2.2.2.1, fun h => by have := H9.out.2.2.1 i h; omega⟩
        have hl3 := H9.out.2.2.2.2.2.2
        have hB10 := H9.out.2.2.2.1.keepK hk10 ⟨hfar _ (by omega), hfar _ (by omega), hfar _ (by omega)⟩
        have hb10 : Below w.heap.size w w10 := ((KeepK.of_below (K := fun i => i < w.heap.size) H9.out.2.2.2.2.1 fun i hi => hi).trans (hk10.mono fun i hi => hfar i (by omega))).below fun i hi => hi
        clear e0 e1
        obtain ⟨ob, hob⟩ : ∃ ob, Obj.cells #[.string n', .int .u16 t', .int .u32 l', .slice A' len' c', .int .u8 rk', .bool no', .bool nm'] 62 = ob := ⟨_, rfl⟩
        have hB11 := hB10.below ((Below.refl _ _).alloc (Nat.le_refl _) ob) hB10.lt
        have H11 := Lib.hid (And.intro (hc10.low ((Below.refl _ _).alloc (Nat.le_refl _) ob)) (And.intro hB11 (And.intro (hb10.alloc hb10.size ob) (And.intro (show w3.heap.size ≤ (w10.alloc ob).heap.size by have := hk10.size; have := H9.out.2.2.2.2.2.1; simp; omega) hl3))))
        have e0 := hB11.qb.cell 0; have e1 := hB11.qb.cell 1
        rw [← hob] at e0 e1 H11
        clear hob hB11 hB10 hb10 hc10 hk10 hfar hl3 hge HGET
        clear hgn
        have HCL := Lib.hid (closest_any H11.out.1 qn HA.out.2.2.1 HW.out.2.1 now (by have := HN.out.1; omega))
        go_wp2_with (fail)
        with_reducible refine HCL.out.mono ?_
        rintro e w12 ⟨⟨x, k, rfl, hx⟩, hk12⟩
        dsimp only [SV.val]
        have hl3 := H11.out.2.2.2.2
        have hfar : ∀ i, i < w3.heap.size → i < _ ∧ ¬ L2 i := fun i hi => ⟨Nat.lt_of_lt_of_le hi H11.out.2.2.2.1, fun h => by have := H9.out.2.2.1 i h; omega⟩
        have hB12 := H11.out.2.1.keepK hk12 ⟨hfar _ (by omega), hfar _ (by omega), hfar _ (by omega)⟩
        have hb12 : Below w.heap.size w w12 := ((KeepK.of_below (K := fun i => i < w.heap.size) H11.out.2.2.1 fun i hi => hi).trans (hk12.mono fun i hi => hfar i (by omega))).below fun i hi => hi
        obtain ⟨ob, hob⟩ : ∃ ob, Obj.cells #[.string x.nm, .int .u16 x.t, .int .u32 x.l, .slice x.A x.n x.c] 49 = ob := ⟨_, rfl⟩
        have hB13 := hB12.below ((Below.refl _ _).alloc (Nat.le_refl _) ob) hB12.lt
        have H13 := Lib.hid (And.intro hB13 (And.intro (hb12.alloc hb12.size ob) hx))
        have hxl : x.nm.size ≤ maxLen ∨ True := .inr trivial
        clear e0 e1
        have e0 := hB13.qb.cell 0; have e1 := hB13.qb.cell 1; have s0 := hB13.sb.cell 0
        have hbl13 := hB13.lt
        rw [← hob] at e0 e1 s0 H13 hbl13
        clear hob hB13 hB12 hb12 hk12 hfar hl3 hx HCL
        cases held with
        | false =>
          go_wp2_with (fail)
          go_ret
          exact ⟨rfl, H13.out.2.1⟩
        | true =>
          have hS1 := Same_any qn n (by have := HA.out.2.2.1; unfold maxLen at this; omega) (by have := HA.out.2.2.2.2.2.1; unfold maxLen at this; omega) (w12.alloc (.cells #[.string x.nm, .int .u16 x.t, .int .u32 x.l, .slice x.A x.n x.c] 49))
          obtain ⟨y, hy⟩ : ∃ y, sameB qn.data.toList n.data.toList = y := ⟨_, rfl⟩
          rw [hy] at hS1
          have HS1 := Lib.hid hS1
          have HY := Lib.hid hy
          clear hS1 hy
          have go : RowKit.Hid (¬ (y = true ∧ qt = 2) → ∀ W, Below (w12.alloc (.cells #[.string x.nm, .int .u16 x.t, .int .u32 x.l, .slice x.A x.n x.c] 49)).heap.size (w12.alloc (.cells #[.string x.nm, .int .u16 x.t, .int .u32 x.l, .slice x.A x.n x.c] 49)) W → k = 0 ∧ Calls Try.prog 21 #[.string x.nm, .string n] W fun e w' => e = .returned (.bool true) ∧ Below W.heap.size W w') := Lib.hid (fun hny W hW => by
            obtain ⟨hk0, hsx⟩ := closeN H9.out.2.1 rfl HW.out.1 (fun h => hny ⟨HY.out ▸ h.1, h.2⟩) H13.out.2.2
            have hxs : x.nm.size ≤ 255 := by
              unfold sameB at hsx
              simp only [Bool.and_eq_true] at hsx
              have h := ((isName_iff _).1 hsx.2.1).1
              have h2 : x.nm.data.toList.length = x.nm.size := by simp
              omega
            have h := Same_any x.nm n (by omega) (by have := HA.out.2.2.2.2.2.1; unfold maxLen at this; omega) W
            rw [hsx] at h
            exact ⟨hk0, h⟩)
          have HX0 := Lib.hid (Blk.new w12 49 #[.string x.nm, .int .u16 x.t, .int .u32 x.l, .slice x.A x.n x.c])
          go_wp2_with (fail)
          with_reducible refine HS1.out.mono ?_
          rintro e w14 ⟨rfl, hb14⟩
          have hB14 := H13.out.1.below hb14 H13.out.1.lt
          have hX14 := HX0.out.below hb14 HX0.out.lt
          have hGO := fun h => go.out h w14 hb14
          have hbw14 := H13.out.2.1.trans (hb14.mono H13.out.2.1.size)
          clear e0 e1 s0
          have e1 := hB14.qb.cell 1
          have s0 := hB14.sb.cell 0
          have x0 := hX14.cell 0
          have hxl14 := hX14.lt
          have H14 := Lib.hid hbw14
          clear hb14 hB14 hX14 hbw14 HS1 HY go hbl13
          cases y with
          | false =>
            obtain ⟨rfl, hS2⟩ := hGO (fun h => nomatch h.1)
            have HS2 := Lib.hid hS2
            clear hS2 hGO
            go_wp2_with (fail)
            with_reducible refine HS2.out.mono ?_
            rintro e w15 ⟨rfl, hb15⟩
            have H15 := Lib.hid (H14.out.trans (hb15.mono H14.out.size))
            clear hb15
            go_wp2_with (fail)
            go_ret
            exact ⟨rfl, H15.out⟩
          | true =>
            by_cases hq2 : qt = 2
            · subst hq2
              clear hGO
              go_wp2_with (fail)
              go_ret
              exact ⟨rfl, H14.out⟩
            · have hq2e : (qt == 2) = false := by simp [hq2]
              obtain ⟨rfl, hS2⟩ := hGO (fun h => hq2 h.2)
              have HS2 := Lib.hid hS2
              clear hS2 hGO hq2
              go_wp2_with (fail)
              with_reducible refine HS2.out.mono ?_
              rintro e w15 ⟨rfl, hb15⟩
              have H15 := Lib.hid (H14.out.trans (hb15.mono H14.out.size))
              clear hb15
              go_wp2_with (fail)
              go_ret
              exact ⟨rfl, H15.out⟩
      | false =>
        have hb2 : b2 = true := by simpa using hbb
        subst hb2
        clear hbb
        go_wp2_with (fail)
        with_reducible refine HNO.out.mono ?_
        rintro e w9 hp9
        obtain ⟨rfl, L2, V2, hc9, hv9, hL9, hk9⟩ := noneN H6.out.2.1 HN.out.1 HW.out.2.2 hp9
        rw [show putB 0 qt false = false from by unfold putB; simp]
        have hfar : ∀ i, i < w3.heap.size → i < w8.heap.size ∧ ¬ L1 i ∧ i ≠ mb := fun i hi => ⟨Nat.lt_of_lt_of_le hi H8.out.2.2.2, fun h => by have := H6.out.2.2.1 i h; omega, (H5.out.2.2.2.2 i hi).2⟩
        have hl3 := H5.out.2.2.2.1
        have hB9 := H8.out.2.1.keepK hk9 ⟨hfar _ (by omega), hfar _ (by omega), hfar _ (by omega)⟩
        have hb9 : Below w.heap.size w w9 := ((KeepK.of_below (K := fun i => i < w.heap.size) H8.out.2.2.1 fun i hi => hi).trans (hk9.mono fun i hi => hfar i (by omega))).below fun i hi => hi
        have hL9' : ∀ i, L2 i → w3.heap.size ≤ i := fun i h => by
          rcases hL9 i h with h | h
          · exact H6.out.2.2.1 i h
          · have := H8.out.2.2.2; omega
        have hz9 := Nat.le_trans H8.out.2.2.2 hk9.size
        clear e0 e1
        have e0 := hB9.qb.cell 0; have e1 := hB9.qb.cell 1
        have H9 := Lib.hid (And.intro hc9 (And.intro hv9 (And.intro hL9' (And.intro hB9 (And.intro hb9 (And.intro hz9 hl3))))))
        have HGET := Lib.hid (get_any hc9 qn HA.out.2.2.1 _ 4 now HA.out.2.2.2.1 (by have := HN.out.1; omega))
        clear hp9 hc9 hv9 hL9 hk9 hfar hB9 hb9 hL9' hz9 hl3 HNO
        go_wp2_with (fail)
        with_reducible refine HGET.out.mono ?_
        rintro e w10 ⟨hge, hc10, hk10⟩
        obtain ⟨n', t', l', A', len', c', rk', no', nm', ok', rfl, hgn⟩ := gotN H9.out.2.1 HW.out.2.2 hge
        have hfar : ∀ i, i < w3.heap.size → i < w9.heap.size ∧ ¬ L2 i := fun i hi => ⟨Nat.lt_of_lt_of_le hi H9.out.2.2.2.2.2.1, fun h => by have := H9.out.2.2.1 i h; omega⟩
        have hl3 := H9.out.2.2.2.2.2.2
        have hB10 := H9.out.2.2.2.1.keepK hk10 ⟨hfar _ (by omega), hfar _ (by omega), hfar _ (by omega)⟩
        have hb10 : Below w.heap.size w w10 := ((KeepK.of_below (K := fun i => i < w.heap.size) H9.out.2.2.2.2.1 fun i hi => hi).trans (hk10.mono fun i hi => hfar i (by omega))).below fun i hi => hi
        clear e0 e1
        obtain ⟨ob, hob⟩ : ∃ ob, Obj.cells #[.string n', .int .u16 t', .int .u32 l', .slice A' len' c', .int .u8 rk', .bool no', .bool nm'] 62 = ob := ⟨_, rfl⟩
        have hB11 := hB10.below ((Below.refl _ _).alloc (Nat.le_refl _) ob) hB10.lt
        have H11 := Lib.hid (And.intro (hc10.low ((Below.refl _ _).alloc (Nat.le_refl _) ob)) (And.intro hB11 (And.intro (hb10.alloc hb10.size ob) (And.intro (show w3.heap.size ≤ (w10.alloc ob).heap.size by have := hk10.size; have := H9.out.2.2.2.2.2.1; simp; omega) hl3))))
        have e0 := hB11.qb.cell 0; have e1 := hB11.qb.cell 1
        rw [← hob] at e0 e1 H11
        clear hob hB11 hB10 hb10 hc10 hk10 hfar hl3 hge HGET
        clear hgn
        have HCL := Lib.hid (closest_any H11.out.1 qn HA.out.2.2.1 HW.out.2.1 now (by have := HN.out.1; omega))
        go_wp2_with (fail)
        with_reducible refine HCL.out.mono ?_
        rintro e w12 ⟨⟨x, k, rfl, hx⟩, hk12⟩
        dsimp only [SV.val]
        have hl3 := H11.out.2.2.2.2
        have hfar : ∀ i, i < w3.heap.size → i < _ ∧ ¬ L2 i := fun i hi => ⟨Nat.lt_of_lt_of_le hi H11.out.2.2.2.1, fun h => by have := H9.out.2.2.1 i h; omega⟩
        have hB12 := H11.out.2.1.keepK hk12 ⟨hfar _ (by omega), hfar _ (by omega), hfar _ (by omega)⟩
        have hb12 : Below w.heap.size w w12 := ((KeepK.of_below (K := fun i => i < w.heap.size) H11.out.2.2.1 fun i hi => hi).trans (hk12.mono fun i hi => hfar i (by omega))).below fun i hi => hi
        obtain ⟨ob, hob⟩ : ∃ ob, Obj.cells #[.string x.nm, .int .u16 x.t, .int .u32 x.l, .slice x.A x.n x.c] 49 = ob := ⟨_, rfl⟩
        have hB13 := hB12.below ((Below.refl _ _).alloc (Nat.le_refl _) ob) hB12.lt
        have H13 := Lib.hid (And.intro hB13 (And.intro (hb12.alloc hb12.size ob) hx))
        have hxl : x.nm.size ≤ maxLen ∨ True := .inr trivial
        clear e0 e1
        have e0 := hB13.qb.cell 0; have e1 := hB13.qb.cell 1; have s0 := hB13.sb.cell 0
        have hbl13 := hB13.lt
        rw [← hob] at e0 e1 s0 H13 hbl13
        clear hob hB13 hB12 hb12 hk12 hfar hl3 hx HCL
        cases held with
        | false =>
          go_wp2_with (fail)
          go_ret
          exact ⟨rfl, H13.out.2.1⟩
        | true =>
          have hS1 := Same_any qn n (by have := HA.out.2.2.1; unfold maxLen at this; omega) (by have := HA.out.2.2.2.2.2.1; unfold maxLen at this; omega) (w12.alloc (.cells #[.string x.nm, .int .u16 x.t, .int .u32 x.l, .slice x.A x.n x.c] 49))
          obtain ⟨y, hy⟩ : ∃ y, sameB qn.data.toList n.data.toList = y := ⟨_, rfl⟩
          rw [hy] at hS1
          have HS1 := Lib.hid hS1
          have HY := Lib.hid hy
          clear hS1 hy
          have go : RowKit.Hid (¬ (y = true ∧ qt = 2) → ∀ W, Below (w12.alloc (.cells #[.string x.nm, .int .u16 x.t, .int .u32 x.l, .slice x.A x.n x.c] 49)).heap.size (w12.alloc (.cells #[.string x.nm, .int .u16 x.t, .int .u32 x.l, .slice x.A x.n x.c] 49)) W → k = 0 ∧ Calls Try.prog 21 #[.string x.nm, .string n] W fun e w' => e = .returned (.bool true) ∧ Below W.heap.size W w') := Lib.hid (fun hny W hW => by
            obtain ⟨hk0, hsx⟩ := closeN H9.out.2.1 rfl HW.out.1 (fun h => hny ⟨HY.out ▸ h.1, h.2⟩) H13.out.2.2
            have hxs : x.nm.size ≤ 255 := by
              unfold sameB at hsx
              simp only [Bool.and_eq_true] at hsx
              have h := ((isName_iff _).1 hsx.2.1).1
              have h2 : x.nm.data.toList.length = x.nm.size := by simp
              omega
            have h := Same_any x.nm n (by omega) (by have := HA.out.2.2.2.2.2.1; unfold maxLen at this; omega) W
            rw [hsx] at h
            exact ⟨hk0, h⟩)
          have HX0 := Lib.hid (Blk.new w12 49 #[.string x.nm, .int .u16 x.t, .int .u32 x.l, .slice x.A x.n x.c])
          go_wp2_with (fail)
          with_reducible refine HS1.out.mono ?_
          rintro e w14 ⟨rfl, hb14⟩
          have hB14 := H13.out.1.below hb14 H13.out.1.lt
          have hX14 := HX0.out.below hb14 HX0.out.lt
          have hGO := fun h => go.out h w14 hb14
          have hbw14 := H13.out.2.1.trans (hb14.mono H13.out.2.1.size)
          clear e0 e1 s0
          have e1 := hB14.qb.cell 1
          have s0 := hB14.sb.cell 0
          have x0 := hX14.cell 0
          have hxl14 := hX14.lt
          have H14 := Lib.hid hbw14
          clear hb14 hB14 hX14 hbw14 HS1 HY go hbl13
          cases y with
          | false =>
            obtain ⟨rfl, hS2⟩ := hGO (fun h => nomatch h.1)
            have HS2 := Lib.hid hS2
            clear hS2 hGO
            go_wp2_with (fail)
            with_reducible refine HS2.out.mono ?_
            rintro e w15 ⟨rfl, hb15⟩
            have H15 := Lib.hid (H14.out.trans (hb15.mono H14.out.size))
            clear hb15
            go_wp2_with (fail)
            go_ret
            exact ⟨rfl, H15.out⟩
          | true =>
            by_cases hq2 : qt = 2
            · subst hq2
              clear hGO
              go_wp2_with (fail)
              go_ret
              exact ⟨rfl, H14.out⟩
            · have hq2e : (qt == 2) = false := by simp [hq2]
              obtain ⟨rfl, hS2⟩ := hGO (fun h => hq2 h.2)
              have HS2 := Lib.hid hS2
              clear hS2 hGO hq2
              go_wp2_with (fail)
              with_reducible refine HS2.out.mono ?_
              rintro e w15 ⟨rfl, hb15⟩
              have H15 := Lib.hid (H14.out.trans (hb15.mono H14.out.size))
              clear hb15
              go_wp2_with (fail)
              go_ret
              exact ⟨rfl, H15.out⟩
    · have htp : 0 < tt := by have := HW.out.2.2; omega
      clear ht0
      cases b1 with
      | true =>
        clear hbb
        go_wp2_with (fail)
        with_reducible refine HNO.out.mono ?_
        rintro e w9 hp9
        obtain ⟨rfl, L2, V2, hc9, hv9, hL9, hk9⟩ := noneN H6.out.2.1 HN.out.1 HW.out.2.2 hp9
        rw [show putB tt qt true = true from by unfold putB; rw [decide_eq_true htp]; rfl]
        have hfar : ∀ i, i < w3.heap.size → i < w8.heap.size ∧ ¬ L1 i ∧ i ≠ mb := fun i hi => ⟨Nat.lt_of_lt_of_le hi H8.out.2.2.2, fun h => by have := H6.out.2.2.1 i h; omega, (H5.out.2.2.2.2 i hi).2⟩
        have hl3 := H5.out.2.2.2.1
        have hB9 := H8.out.2.1.keepK hk9 ⟨hfar _ (by omega), hfar _ (by omega), hfar _ (by omega)⟩
        have hb9 : Below w.heap.size w w9 := ((KeepK.of_below (K := fun i => i < w.heap.size) H8.out.2.2.1 fun i hi => hi).trans (hk9.mono fun i hi => hfar i (by omega))).below fun i hi => hi
        have hL9' : ∀ i, L2 i → w3.heap.size ≤ i := fun i h => by
          rcases hL9 i h with h | h
          · exact H6.out.2.2.1 i h
          · have := H8.out.2.2.2; omega
        have hz9 := Nat.le_trans H8.out.2.2.2 hk9.size
        clear e0 e1
        have e0 := hB9.qb.cell 0; have e1 := hB9.qb.cell 1
        have H9 := Lib.hid (And.intro hc9 (And.intro hv9 (And.intro hL9' (And.intro hB9 (And.intro hb9 (And.intro hz9 hl3))))))
        have HGET := Lib.hid (get_any hc9 qn HA.out.2.2.1 _ 4 now HA.out.2.2.2.1 (by have := HN.out.1; omega))
        clear hp9 hc9 hv9 hL9 hk9 hfar hB9 hb9 hL9' hz9 hl3 HNO
        go_wp2_with (fail)
        with_reducible refine HGET.out.mono ?_
        rintro e w10 ⟨hge, hc10, hk10⟩
        obtain ⟨n', t', l', A', len', c', rk', no', nm', ok', rfl, hgn⟩ := gotN H9.out.2.1 HW.out.2.2 hge
        have hfar : ∀ i, i < w3.heap.size → i < w9.heap.size ∧ ¬ L2 i := fun i hi => ⟨Nat.lt_of_lt_of_le hi H9.out.2.2.2.2.2.1, fun h => by have := H9.out.2.2.1 i h; omega⟩
        have hl3 := H9.out.2.2.2.2.2.2
        have hB10 := H9.out.2.2.2.1.keepK hk10 ⟨hfar _ (by omega), hfar _ (by omega), hfar _ (by omega)⟩
        have hb10 : Below w.heap.size w w10 := ((KeepK.of_below (K := fun i => i < w.heap.size) H9.out.2.2.2.2.1 fun i hi => hi).trans (hk10.mono fun i hi => hfar i (by omega))).below fun i hi => hi
        clear e0 e1
        obtain ⟨ob, hob⟩ : ∃ ob, Obj.cells #[.string n', .int .u16 t', .int .u32 l', .slice A' len' c', .int .u8 rk', .bool no', .bool nm'] 62 = ob := ⟨_, rfl⟩
        have hB11 := hB10.below ((Below.refl _ _).alloc (Nat.le_refl _) ob) hB10.lt
        have H11 := Lib.hid (And.intro (hc10.low ((Below.refl _ _).alloc (Nat.le_refl _) ob)) (And.intro hB11 (And.intro (hb10.alloc hb10.size ob) (And.intro (show w3.heap.size ≤ (w10.alloc ob).heap.size by have := hk10.size; have := H9.out.2.2.2.2.2.1; simp; omega) hl3))))
        have e0 := hB11.qb.cell 0; have e1 := hB11.qb.cell 1
        rw [← hob] at e0 e1 H11
        clear hob hB11 hB10 hb10 hc10 hk10 hfar hl3 hge HGET
        obtain ⟨rfl, rfl, rfl, rfl⟩ := hgn (by unfold putB; rw [decide_eq_true htp]; rfl)
        have HCL := Lib.hid (closest_any H11.out.1 qn HA.out.2.2.1 HW.out.2.1 now (by have := HN.out.1; omega))
        go_wp2_with (fail)
        with_reducible refine HCL.out.mono ?_
        rintro e w12 ⟨⟨x, k, rfl, hx⟩, hk12⟩
        dsimp only [SV.val]
        have hl3 := H11.out.2.2.2.2
        have hfar : ∀ i, i < w3.heap.size → i < _ ∧ ¬ L2 i := fun i hi => ⟨Nat.lt_of_lt_of_le hi H11.out.2.2.2.1, fun h => by have := H9.out.2.2.1 i h; omega⟩
        have hB12 := H11.out.2.1.keepK hk12 ⟨hfar _ (by omega), hfar _ (by omega), hfar _ (by omega)⟩
        have hb12 : Below w.heap.size w w12 := ((KeepK.of_below (K := fun i => i < w.heap.size) H11.out.2.2.1 fun i hi => hi).trans (hk12.mono fun i hi => hfar i (by omega))).below fun i hi => hi
        obtain ⟨ob, hob⟩ : ∃ ob, Obj.cells #[.string x.nm, .int .u16 x.t, .int .u32 x.l, .slice x.A x.n x.c] 49 = ob := ⟨_, rfl⟩
        have hB13 := hB12.below ((Below.refl _ _).alloc (Nat.le_refl _) ob) hB12.lt
        have H13 := Lib.hid (And.intro hB13 (And.intro (hb12.alloc hb12.size ob) hx))
        have hxl : x.nm.size ≤ maxLen ∨ True := .inr trivial
        clear e0 e1
        have e0 := hB13.qb.cell 0; have e1 := hB13.qb.cell 1; have s0 := hB13.sb.cell 0
        have hbl13 := hB13.lt
        rw [← hob] at e0 e1 s0 H13 hbl13
        clear hob hB13 hB12 hb12 hk12 hfar hl3 hx HCL
        cases held with
        | false =>
          go_wp2_with (fail)
          go_ret
          exact ⟨rfl, H13.out.2.1⟩
        | true =>
          have hS1 := Same_any qn n (by have := HA.out.2.2.1; unfold maxLen at this; omega) (by have := HA.out.2.2.2.2.2.1; unfold maxLen at this; omega) (w12.alloc (.cells #[.string x.nm, .int .u16 x.t, .int .u32 x.l, .slice x.A x.n x.c] 49))
          obtain ⟨y, hy⟩ : ∃ y, sameB qn.data.toList n.data.toList = y := ⟨_, rfl⟩
          rw [hy] at hS1
          have HS1 := Lib.hid hS1
          have HY := Lib.hid hy
          clear hS1 hy
          have go : RowKit.Hid (¬ (y = true ∧ qt = 2) → ∀ W, Below (w12.alloc (.cells #[.string x.nm, .int .u16 x.t, .int .u32 x.l, .slice x.A x.n x.c] 49)).heap.size (w12.alloc (.cells #[.string x.nm, .int .u16 x.t, .int .u32 x.l, .slice x.A x.n x.c] 49)) W → k = 0 ∧ Calls Try.prog 21 #[.string x.nm, .string n] W fun e w' => e = .returned (.bool true) ∧ Below W.heap.size W w') := Lib.hid (fun hny W hW => by
            obtain ⟨hk0, hsx⟩ := closeN H9.out.2.1 rfl HW.out.1 (fun h => hny ⟨HY.out ▸ h.1, h.2⟩) H13.out.2.2
            have hxs : x.nm.size ≤ 255 := by
              unfold sameB at hsx
              simp only [Bool.and_eq_true] at hsx
              have h := ((isName_iff _).1 hsx.2.1).1
              have h2 : x.nm.data.toList.length = x.nm.size := by simp
              omega
            have h := Same_any x.nm n (by omega) (by have := HA.out.2.2.2.2.2.1; unfold maxLen at this; omega) W
            rw [hsx] at h
            exact ⟨hk0, h⟩)
          have HX0 := Lib.hid (Blk.new w12 49 #[.string x.nm, .int .u16 x.t, .int .u32 x.l, .slice x.A x.n x.c])
          go_wp2_with (fail)
          with_reducible refine HS1.out.mono ?_
          rintro e w14 ⟨rfl, hb14⟩
          have hB14 := H13.out.1.below hb14 H13.out.1.lt
          have hX14 := HX0.out.below hb14 HX0.out.lt
          have hGO := fun h => go.out h w14 hb14
          have hbw14 := H13.out.2.1.trans (hb14.mono H13.out.2.1.size)
          clear e0 e1 s0
          have e1 := hB14.qb.cell 1
          have s0 := hB14.sb.cell 0
          have x0 := hX14.cell 0
          have hxl14 := hX14.lt
          have H14 := Lib.hid hbw14
          clear hb14 hB14 hX14 hbw14 HS1 HY go hbl13
          cases y with
          | false =>
            obtain ⟨rfl, hS2⟩ := hGO (fun h => nomatch h.1)
            have HS2 := Lib.hid hS2
            clear hS2 hGO
            go_wp2_with (fail)
            with_reducible refine HS2.out.mono ?_
            rintro e w15 ⟨rfl, hb15⟩
            have H15 := Lib.hid (H14.out.trans (hb15.mono H14.out.size))
            clear hb15
            go_wp2_with (fail)
            go_ret
            exact ⟨rfl, H15.out⟩
          | true =>
            by_cases hq2 : qt = 2
            · subst hq2
              clear hGO
              go_wp2_with (fail)
              go_ret
              exact ⟨rfl, H14.out⟩
            · have hq2e : (qt == 2) = false := by simp [hq2]
              obtain ⟨rfl, hS2⟩ := hGO (fun h => hq2 h.2)
              have HS2 := Lib.hid hS2
              clear hS2 hGO hq2
              go_wp2_with (fail)
              with_reducible refine HS2.out.mono ?_
              rintro e w15 ⟨rfl, hb15⟩
              have H15 := Lib.hid (H14.out.trans (hb15.mono H14.out.size))
              clear hb15
              go_wp2_with (fail)
              go_ret
              exact ⟨rfl, H15.out⟩
      | false =>
        have hb2 : b2 = true := by simpa using hbb
        subst hb2
        clear hbb
        by_cases hq0 : qt = 0
        · subst hq0
          go_wp2_with (fail)
          with_reducible refine HNO.out.mono ?_
          rintro e w9 hp9
          obtain ⟨rfl, L2, V2, hc9, hv9, hL9, hk9⟩ := noneN H6.out.2.1 HN.out.1 HW.out.2.2 hp9
          rw [show putB tt 0 false = false from by unfold putB; simp]
          have hfar : ∀ i, i < w3.heap.size → i < w8.heap.size ∧ ¬ L1 i ∧ i ≠ mb := fun i hi => ⟨Nat.lt_of_lt_of_le hi H8.out.2.2.2, fun h => by have := H6.out.2.2.1 i h; omega, (H5.out.2.2.2.2 i hi).2⟩
          have hl3 := H5.out.2.2.2.1
          have hB9 := H8.out.2.1.keepK hk9 ⟨hfar _ (by omega), hfar _ (by omega), hfar _ (by omega)⟩
          have hb9 : Below w.heap.size w w9 := ((KeepK.of_below (K := fun i => i < w.heap.size) H8.out.2.2.1 fun i hi => hi).trans (hk9.mono fun i hi => hfar i (by omega))).below fun i hi => hi
          have hL9' : ∀ i, L2 i → w3.heap.size ≤ i := fun i h => by
            rcases hL9 i h with h | h
            · exact H6.out.2.2.1 i h
            · have := H8.out.2.2.2; omega
          have hz9 := Nat.le_trans H8.out.2.2.2 hk9.size
          clear e0 e1
          have e0 := hB9.qb.cell 0; have e1 := hB9.qb.cell 1
          have H9 := Lib.hid (And.intro hc9 (And.intro hv9 (And.intro hL9' (And.intro hB9 (And.intro hb9 (And.intro hz9 hl3))))))
          have HGET := Lib.hid (get_any hc9 qn HA.out.2.2.1 _ 4 now HA.out.2.2.2.1 (by have := HN.out.1; omega))
          clear hp9 hc9 hv9 hL9 hk9 hfar hB9 hb9 hL9' hz9 hl3 HNO
          go_wp2_with (fail)
          with_reducible refine HGET.out.mono ?_
          rintro e w10 ⟨hge, hc10, hk10⟩
          obtain ⟨n', t', l', A', len', c', rk', no', nm', ok', rfl, hgn⟩ := gotN H9.out.2.1 HW.out.2.2 hge
          have hfar : ∀ i, i < w3.heap.size → i < w9.heap.size ∧ ¬ L2 i := fun i hi => ⟨Nat.lt_of_lt_of_le hi H9.out.2.2.2.2.2.1, fun h => by have := H9.out.2.2.1 i h; omega⟩
          have hl3 := H9.out.2.2.2.2.2.2
          have hB10 := H9.out.2.2.2.1.keepK hk10 ⟨hfar _ (by omega), hfar _ (by omega), hfar _ (by omega)⟩
          have hb10 : Below w.heap.size w w10 := ((KeepK.of_below (K := fun i => i < w.heap.size) H9.out.2.2.2.2.1 fun i hi => hi).trans (hk10.mono fun i hi => hfar i (by omega))).below fun i hi => hi
          clear e0 e1
          obtain ⟨ob, hob⟩ : ∃ ob, Obj.cells #[.string n', .int .u16 t', .int .u32 l', .slice A' len' c', .int .u8 rk', .bool no', .bool nm'] 62 = ob := ⟨_, rfl⟩
          have hB11 := hB10.below ((Below.refl _ _).alloc (Nat.le_refl _) ob) hB10.lt
          have H11 := Lib.hid (And.intro (hc10.low ((Below.refl _ _).alloc (Nat.le_refl _) ob)) (And.intro hB11 (And.intro (hb10.alloc hb10.size ob) (And.intro (show w3.heap.size ≤ (w10.alloc ob).heap.size by have := hk10.size; have := H9.out.2.2.2.2.2.1; simp; omega) hl3))))
          have e0 := hB11.qb.cell 0; have e1 := hB11.qb.cell 1
          rw [← hob] at e0 e1 H11
          clear hob hB11 hB10 hb10 hc10 hk10 hfar hl3 hge HGET
          clear hgn
          have HCL := Lib.hid (closest_any H11.out.1 qn HA.out.2.2.1 HW.out.2.1 now (by have := HN.out.1; omega))
          go_wp2_with (fail)
          with_reducible refine HCL.out.mono ?_
          rintro e w12 ⟨⟨x, k, rfl, hx⟩, hk12⟩
          dsimp only [SV.val]
          have hl3 := H11.out.2.2.2.2
          have hfar : ∀ i, i < w3.heap.size → i < _ ∧ ¬ L2 i := fun i hi => ⟨Nat.lt_of_lt_of_le hi H11.out.2.2.2.1, fun h => by have := H9.out.2.2.1 i h; omega⟩
          have hB12 := H11.out.2.1.keepK hk12 ⟨hfar _ (by omega), hfar _ (by omega), hfar _ (by omega)⟩
          have hb12 : Below w.heap.size w w12 := ((KeepK.of_below (K := fun i => i < w.heap.size) H11.out.2.2.1 fun i hi => hi).trans (hk12.mono fun i hi => hfar i (by omega))).below fun i hi => hi
          obtain ⟨ob, hob⟩ : ∃ ob, Obj.cells #[.string x.nm, .int .u16 x.t, .int .u32 x.l, .slice x.A x.n x.c] 49 = ob := ⟨_, rfl⟩
          have hB13 := hB12.below ((Below.refl _ _).alloc (Nat.le_refl _) ob) hB12.lt
          have H13 := Lib.hid (And.intro hB13 (And.intro (hb12.alloc hb12.size ob) hx))
          have hxl : x.nm.size ≤ maxLen ∨ True := .inr trivial
          clear e0 e1
          have e0 := hB13.qb.cell 0; have e1 := hB13.qb.cell 1; have s0 := hB13.sb.cell 0
          have hbl13 := hB13.lt
          rw [← hob] at e0 e1 s0 H13 hbl13
          clear hob hB13 hB12 hb12 hk12 hfar hl3 hx HCL
          cases held with
          | false =>
            go_wp2_with (fail)
            go_ret
            exact ⟨rfl, H13.out.2.1⟩
          | true =>
            have hS1 := Same_any qn n (by have := HA.out.2.2.1; unfold maxLen at this; omega) (by have := HA.out.2.2.2.2.2.1; unfold maxLen at this; omega) (w12.alloc (.cells #[.string x.nm, .int .u16 x.t, .int .u32 x.l, .slice x.A x.n x.c] 49))
            obtain ⟨y, hy⟩ : ∃ y, sameB qn.data.toList n.data.toList = y := ⟨_, rfl⟩
            rw [hy] at hS1
            have HS1 := Lib.hid hS1
            have HY := Lib.hid hy
            clear hS1 hy
            have go : RowKit.Hid (¬ (y = true ∧ (0 : Int) = 2) → ∀ W, Below (w12.alloc (.cells #[.string x.nm, .int .u16 x.t, .int .u32 x.l, .slice x.A x.n x.c] 49)).heap.size (w12.alloc (.cells #[.string x.nm, .int .u16 x.t, .int .u32 x.l, .slice x.A x.n x.c] 49)) W → k = 0 ∧ Calls Try.prog 21 #[.string x.nm, .string n] W fun e w' => e = .returned (.bool true) ∧ Below W.heap.size W w') := Lib.hid (fun hny W hW => by
              obtain ⟨hk0, hsx⟩ := closeN H9.out.2.1 rfl HW.out.1 (fun h => hny ⟨HY.out ▸ h.1, h.2⟩) H13.out.2.2
              have hxs : x.nm.size ≤ 255 := by
                unfold sameB at hsx
                simp only [Bool.and_eq_true] at hsx
                have h := ((isName_iff _).1 hsx.2.1).1
                have h2 : x.nm.data.toList.length = x.nm.size := by simp
                omega
              have h := Same_any x.nm n (by omega) (by have := HA.out.2.2.2.2.2.1; unfold maxLen at this; omega) W
              rw [hsx] at h
              exact ⟨hk0, h⟩)
            have HX0 := Lib.hid (Blk.new w12 49 #[.string x.nm, .int .u16 x.t, .int .u32 x.l, .slice x.A x.n x.c])
            go_wp2_with (fail)
            with_reducible refine HS1.out.mono ?_
            rintro e w14 ⟨rfl, hb14⟩
            have hB14 := H13.out.1.below hb14 H13.out.1.lt
            have hX14 := HX0.out.below hb14 HX0.out.lt
            have hGO := fun h => go.out h w14 hb14
            have hbw14 := H13.out.2.1.trans (hb14.mono H13.out.2.1.size)
            clear e0 e1 s0
            have e1 := hB14.qb.cell 1
            have s0 := hB14.sb.cell 0
            have x0 := hX14.cell 0
            have hxl14 := hX14.lt
            have H14 := Lib.hid hbw14
            clear hb14 hB14 hX14 hbw14 HS1 HY go hbl13
            cases y with
            | false =>
              obtain ⟨rfl, hS2⟩ := hGO (fun h => nomatch h.1)
              have HS2 := Lib.hid hS2
              clear hS2 hGO
              go_wp2_with (fail)
              with_reducible refine HS2.out.mono ?_
              rintro e w15 ⟨rfl, hb15⟩
              have H15 := Lib.hid (H14.out.trans (hb15.mono H14.out.size))
              clear hb15
              go_wp2_with (fail)
              go_ret
              exact ⟨rfl, H15.out⟩
            | true =>
              by_cases hq2 : (0 : Int) = 2
              · exact absurd hq2 (by decide)
              · have hq2e : ((0 : Int) == 2) = false := by simp [hq2]
                obtain ⟨rfl, hS2⟩ := hGO (fun h => hq2 h.2)
                have HS2 := Lib.hid hS2
                clear hS2 hGO hq2
                go_wp2_with (fail)
                with_reducible refine HS2.out.mono ?_
                rintro e w15 ⟨rfl, hb15⟩
                have H15 := Lib.hid (H14.out.trans (hb15.mono H14.out.size))
                clear hb15
                go_wp2_with (fail)
                go_ret
                exact ⟨rfl, H15.out⟩
        · have hqe : (qt == 0) = false := by simp [hq0]
          have hqe2 : (qt != 0) = true := by simp [hq0]
          have hqe3 : decide (qt = 0) = false := by simp [hq0]
          have HQ0 := Lib.hid hq0
          clear hq0
          go_wp2_with (fail)
          with_reducible refine HNO.out.mono ?_
          rintro e w9 hp9
          obtain ⟨rfl, L2, V2, hc9, hv9, hL9, hk9⟩ := noneN H6.out.2.1 HN.out.1 HW.out.2.2 hp9
          rw [show putB tt qt false = true from by unfold putB; rw [decide_eq_true htp, decide_eq_false HQ0.out]; rfl]
          have hfar : ∀ i, i < w3.heap.size → i < w8.heap.size ∧ ¬ L1 i ∧ i ≠ mb := fun i hi => ⟨Nat.lt_of_lt_of_le hi H8.out.2.2.2, fun h => by have := H6.out.2.2.1 i h; omega, (H5.out.2.2.2.2 i hi).2⟩
          have hl3 := H5.out.2.2.2.1
          have hB9 := H8.out.2.1.keepK hk9 ⟨hfar _ (by omega), hfar _ (by omega), hfar _ (by omega)⟩
          have hb9 : Below w.heap.size w w9 := ((KeepK.of_below (K := fun i => i < w.heap.size) H8.out.2.2.1 fun i hi => hi).trans (hk9.mono fun i hi => hfar i (by omega))).below fun i hi => hi
          have hL9' : ∀ i, L2 i → w3.heap.size ≤ i := fun i h => by
            rcases hL9 i h with h | h
            · exact H6.out.2.2.1 i h
            · have := H8.out.2.2.2; omega
          have hz9 := Nat.le_trans H8.out.2.2.2 hk9.size
          clear e0 e1
          have e0 := hB9.qb.cell 0; have e1 := hB9.qb.cell 1
          have H9 := Lib.hid (And.intro hc9 (And.intro hv9 (And.intro hL9' (And.intro hB9 (And.intro hb9 (And.intro hz9 hl3))))))
          have HGET := Lib.hid (get_any hc9 qn HA.out.2.2.1 _ 4 now HA.out.2.2.2.1 (by have := HN.out.1; omega))
          clear hp9 hc9 hv9 hL9 hk9 hfar hB9 hb9 hL9' hz9 hl3 HNO
          go_wp2_with (fail)
          with_reducible refine HGET.out.mono ?_
          rintro e w10 ⟨hge, hc10, hk10⟩
          obtain ⟨n', t', l', A', len', c', rk', no', nm', ok', rfl, hgn⟩ := gotN H9.out.2.1 HW.out.2.2 hge
          have hfar : ∀ i, i < w3.heap.size → i < w9.heap.size ∧ ¬ L2 i := fun i hi => ⟨Nat.lt_of_lt_of_le hi H9.out.2.2.2.2.2.1, fun h => by have := H9.out.2.2.1 i h; omega⟩
          have hl3 := H9.out.2.2.2.2.2.2
          have hB10 := H9.out.2.2.2.1.keepK hk10 ⟨hfar _ (by omega), hfar _ (by omega), hfar _ (by omega)⟩
          have hb10 : Below w.heap.size w w10 := ((KeepK.of_below (K := fun i => i < w.heap.size) H9.out.2.2.2.2.1 fun i hi => hi).trans (hk10.mono fun i hi => hfar i (by omega))).below fun i hi => hi
          clear e0 e1
          obtain ⟨ob, hob⟩ : ∃ ob, Obj.cells #[.string n', .int .u16 t', .int .u32 l', .slice A' len' c', .int .u8 rk', .bool no', .bool nm'] 62 = ob := ⟨_, rfl⟩
          have hB11 := hB10.below ((Below.refl _ _).alloc (Nat.le_refl _) ob) hB10.lt
          have H11 := Lib.hid (And.intro (hc10.low ((Below.refl _ _).alloc (Nat.le_refl _) ob)) (And.intro hB11 (And.intro (hb10.alloc hb10.size ob) (And.intro (show w3.heap.size ≤ (w10.alloc ob).heap.size by have := hk10.size; have := H9.out.2.2.2.2.2.1; simp; omega) hl3))))
          have e0 := hB11.qb.cell 0; have e1 := hB11.qb.cell 1
          rw [← hob] at e0 e1 H11
          clear hob hB11 hB10 hb10 hc10 hk10 hfar hl3 hge HGET
          obtain ⟨rfl, rfl, rfl, rfl⟩ := hgn (by unfold putB; rw [decide_eq_true htp, decide_eq_false HQ0.out]; rfl)
          have HCL := Lib.hid (closest_any H11.out.1 qn HA.out.2.2.1 HW.out.2.1 now (by have := HN.out.1; omega))
          go_wp2_with (fail)
          with_reducible refine HCL.out.mono ?_
          rintro e w12 ⟨⟨x, k, rfl, hx⟩, hk12⟩
          dsimp only [SV.val]
          have hl3 := H11.out.2.2.2.2
          have hfar : ∀ i, i < w3.heap.size → i < _ ∧ ¬ L2 i := fun i hi => ⟨Nat.lt_of_lt_of_le hi H11.out.2.2.2.1, fun h => by have := H9.out.2.2.1 i h; omega⟩
          have hB12 := H11.out.2.1.keepK hk12 ⟨hfar _ (by omega), hfar _ (by omega), hfar _ (by omega)⟩
          have hb12 : Below w.heap.size w w12 := ((KeepK.of_below (K := fun i => i < w.heap.size) H11.out.2.2.1 fun i hi => hi).trans (hk12.mono fun i hi => hfar i (by omega))).below fun i hi => hi
          obtain ⟨ob, hob⟩ : ∃ ob, Obj.cells #[.string x.nm, .int .u16 x.t, .int .u32 x.l, .slice x.A x.n x.c] 49 = ob := ⟨_, rfl⟩
          have hB13 := hB12.below ((Below.refl _ _).alloc (Nat.le_refl _) ob) hB12.lt
          have H13 := Lib.hid (And.intro hB13 (And.intro (hb12.alloc hb12.size ob) hx))
          have hxl : x.nm.size ≤ maxLen ∨ True := .inr trivial
          clear e0 e1
          have e0 := hB13.qb.cell 0; have e1 := hB13.qb.cell 1; have s0 := hB13.sb.cell 0
          have hbl13 := hB13.lt
          rw [← hob] at e0 e1 s0 H13 hbl13
          clear hob hB13 hB12 hb12 hk12 hfar hl3 hx HCL
          cases held with
          | false =>
            go_wp2_with (fail)
            go_ret
            exact ⟨rfl, H13.out.2.1⟩
          | true =>
            have hS1 := Same_any qn n (by have := HA.out.2.2.1; unfold maxLen at this; omega) (by have := HA.out.2.2.2.2.2.1; unfold maxLen at this; omega) (w12.alloc (.cells #[.string x.nm, .int .u16 x.t, .int .u32 x.l, .slice x.A x.n x.c] 49))
            obtain ⟨y, hy⟩ : ∃ y, sameB qn.data.toList n.data.toList = y := ⟨_, rfl⟩
            rw [hy] at hS1
            have HS1 := Lib.hid hS1
            have HY := Lib.hid hy
            clear hS1 hy
            have go : RowKit.Hid (¬ (y = true ∧ qt = 2) → ∀ W, Below (w12.alloc (.cells #[.string x.nm, .int .u16 x.t, .int .u32 x.l, .slice x.A x.n x.c] 49)).heap.size (w12.alloc (.cells #[.string x.nm, .int .u16 x.t, .int .u32 x.l, .slice x.A x.n x.c] 49)) W → k = 0 ∧ Calls Try.prog 21 #[.string x.nm, .string n] W fun e w' => e = .returned (.bool true) ∧ Below W.heap.size W w') := Lib.hid (fun hny W hW => by
              obtain ⟨hk0, hsx⟩ := closeN H9.out.2.1 rfl HW.out.1 (fun h => hny ⟨HY.out ▸ h.1, h.2⟩) H13.out.2.2
              have hxs : x.nm.size ≤ 255 := by
                unfold sameB at hsx
                simp only [Bool.and_eq_true] at hsx
                have h := ((isName_iff _).1 hsx.2.1).1
                have h2 : x.nm.data.toList.length = x.nm.size := by simp
                omega
              have h := Same_any x.nm n (by omega) (by have := HA.out.2.2.2.2.2.1; unfold maxLen at this; omega) W
              rw [hsx] at h
              exact ⟨hk0, h⟩)
            have HX0 := Lib.hid (Blk.new w12 49 #[.string x.nm, .int .u16 x.t, .int .u32 x.l, .slice x.A x.n x.c])
            go_wp2_with (fail)
            with_reducible refine HS1.out.mono ?_
            rintro e w14 ⟨rfl, hb14⟩
            have hB14 := H13.out.1.below hb14 H13.out.1.lt
            have hX14 := HX0.out.below hb14 HX0.out.lt
            have hGO := fun h => go.out h w14 hb14
            have hbw14 := H13.out.2.1.trans (hb14.mono H13.out.2.1.size)
            clear e0 e1 s0
            have e1 := hB14.qb.cell 1
            have s0 := hB14.sb.cell 0
            have x0 := hX14.cell 0
            have hxl14 := hX14.lt
            have H14 := Lib.hid hbw14
            clear hb14 hB14 hX14 hbw14 HS1 HY go hbl13
            cases y with
            | false =>
              obtain ⟨rfl, hS2⟩ := hGO (fun h => nomatch h.1)
              have HS2 := Lib.hid hS2
              clear hS2 hGO
              go_wp2_with (fail)
              with_reducible refine HS2.out.mono ?_
              rintro e w15 ⟨rfl, hb15⟩
              have H15 := Lib.hid (H14.out.trans (hb15.mono H14.out.size))
              clear hb15
              go_wp2_with (fail)
              go_ret
              exact ⟨rfl, H15.out⟩
            | true =>
              by_cases hq2 : qt = 2
              · subst hq2
                clear hGO
                go_wp2_with (fail)
                go_ret
                exact ⟨rfl, H14.out⟩
              · have hq2e : (qt == 2) = false := by simp [hq2]
                obtain ⟨rfl, hS2⟩ := hGO (fun h => hq2 h.2)
                have HS2 := Lib.hid hS2
                clear hS2 hGO hq2
                go_wp2_with (fail)
                with_reducible refine HS2.out.mono ?_
                rintro e w15 ⟨rfl, hb15⟩
                have H15 := Lib.hid (H14.out.trans (hb15.mono H14.out.size))
                clear hb15
                go_wp2_with (fail)
                go_ret
                exact ⟨rfl, H15.out⟩
end Go.Proofs.Ytfipacfompihkaa
