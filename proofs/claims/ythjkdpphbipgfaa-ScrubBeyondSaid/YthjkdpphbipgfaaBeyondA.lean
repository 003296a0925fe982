/- The walk of hardtacklaw20.all; two records held against one another. Conditions: none. -/
import Derived.Test.YthjkdpphbipgfaaRef20M
import Derived.Test.YthjkdpphbipgfaaMsgSmall
namespace Go.Proofs.Ythjkdpphbipgfaa
open Go.RowKit Go.Shelf Go.Lib

theorem last4s {a b c d : Prop} (H : a ∧ b ∧ c ∧ d) : d := H.2.2.2
/-- Records are held against one another somehow; each is itself. -/
theorem eql_ex (a b : RRec) : ∃ r : Bool, (∀ w, (binOp .eql 30 (.agg #[.string a.n, .int .u16 a.t, .int .u16 a.c, .int .u32 a.l, .string a.d]) (.agg #[.string b.n, .int .u16 b.t, .int .u16 b.c, .int .u32 b.l, .string b.d])).run Try.prog w = .ok (.bool r) w) ∧ (a = b → r = true) := by
  have hS : Try.prog.underlying 30 = some (.struct (Try.prog.fieldsOf 30)) := by kernel_rfl
  have hp : Try.prog.stoodInHeld 30 = false := by kernel_rfl
  have u1 := Try.underlying9
  have u2 := Try.underlying28
  have u3 := Try.underlying22
  have u4 := Try.underlying27
  have a1 := Try.isAgg9
  have a2 := Try.isAgg28
  have a3 := Try.isAgg22
  have a4 := Try.isAgg27
  have z1 := Try.sizeOf9
  have z2 := Try.sizeOf28
  have z3 := Try.sizeOf22
  have z4 := Try.sizeOf27
  by_cases hab : a = b
  · subst hab
    refine ⟨true, fun w => ?_, fun _ => rfl⟩
    rw [run_eql_struct, show (10000 : Nat) = 9999 + 1 from rfl, run_equalIn_agg w 9999 _ _ _ hS hp]
    simp only [Program.fieldsOf, Try.underlying30]
    go_simp
  · obtain ⟨an, at_, ac, al, ad⟩ := a
    obtain ⟨bn, bt, bc, bl, bd⟩ := b
    refine ⟨false, fun w => ?_, fun h => absurd h hab⟩
    rw [run_eql_struct, show (10000 : Nat) = 9999 + 1 from rfl, run_equalIn_agg w 9999 _ _ _ hS hp]
    simp only [Program.fieldsOf, Try.underlying30]
    go_simp
    intro h1 h2 h3 h4 h5
    rw [ByteArray.toList_eq, ByteArray.toList_eq] at h1 h5
    rw [ba_eq h1, ba_eq h5, h2, h3, h4] at hab
    exact hab rfl

theorem step_g {V X Y : World} {row : Option Nat} (h : Below V.heap.size V X) (hg : X.grownBy Y row) (hr : ∀ i, row = some i → V.heap.size ≤ i) : Below V.heap.size V Y := h.grown hg h.size hr

set_option maxRecDepth 100000 in
set_option maxHeartbeats 8000000 in
theorem all20_any (m : MRec) (w : World) (hm : m.In w) (hl : m.s.length ≤ 1000 ∧ m.h.length ≤ 1000 ∧ m.e.length ≤ 1000) :
    Calls Try.prog 20 #[m.val] w (CollPostR (m.s ++ m.h ++ m.e) w) := by
  obtain ⟨i0, hi0, hz0, hz1, hz2⟩ := info_parts info_rr
  have HM := Lib.hid hm
  obtain ⟨l1, l2, l3⟩ := hl
  clear hm
  obtain ⟨L, hL⟩ : ∃ L, m.s ++ m.h ++ m.e = L := ⟨_, rfl⟩
  rw [hL]
  have HL := Lib.hid hL
  clear hL
  dsimp only [MRec.val]
  go_enter Try.func20, Try.ntmps20
  go_wp2_with (fail)
  obtain ⟨V, hV⟩ : ∃ V, w.alloc (.cells #[.int .u16 m.id, .int .u16 m.bi, .slice m.qA m.q.length m.qc, .slice m.sA m.s.length m.sc, .slice m.hA m.h.length m.hc, .slice m.eA m.e.length m.ec] 26) = V := ⟨_, rfl⟩
  have HV := Lib.hid (show Below w.heap.size w V ∧ Blk V w.heap.size 26 #[.int .u16 m.id, .int .u16 m.bi, .slice m.qA m.q.length m.qc, .slice m.sA m.s.length m.sc, .slice m.hA m.h.length m.hc, .slice m.eA m.e.length m.ec] from by
    rw [← hV]; exact ⟨(Below.refl _ _).alloc (Nat.le_refl _) _, Blk.new _ _ _⟩)
  rw [hV]
  clear hV
  have HIn := Lib.hid (fun W (hW : Below V.heap.size V W) => show m.In W from (HM.out.below HV.out.1).below hW)
  have HKA : RowKit.Hid (∀ w', Below V.heap.size V w' → w'.cell? ⟨w.heap.size, 3, none⟩ = some (.slice m.sA m.s.length m.sc) ∧ w'.cell? ⟨w.heap.size, 4, none⟩ = some (.slice m.hA m.h.length m.hc) ∧ w'.cell? ⟨w.heap.size, 5, none⟩ = some (.slice m.eA m.e.length m.ec) ∧ Below V.heap.size V w') := Lib.hid (fun w' hb => by
    have c0 := HV.out.2.below hb HV.out.2.lt
    exact ⟨c0.cell 3, c0.cell 4, c0.cell 5, hb⟩)
  have R0 : Below V.heap.size V V := Below.refl _ _
  have hB0 : ∀ g, (Value.slice (some ⟨V.heap.size, 0, none⟩) 0 0).ownBlock = some g → V.heap.size ≤ g := fun g hg => by simp [Value.ownBlock] at hg; omega
  go_region_held3 (fun w' => w'.cell? ⟨w.heap.size, 3, none⟩ = some (.slice m.sA m.s.length m.sc) ∧ w'.cell? ⟨w.heap.size, 4, none⟩ = some (.slice m.hA m.h.length m.hc) ∧ w'.cell? ⟨w.heap.size, 5, none⟩ = some (.slice m.eA m.e.length m.ec) ∧ Below V.heap.size V w')
    (first | with_reducible assumption | with_reducible exact HKA.out _ R0 | with_reducible exact HKA.out _ R0.drew | with_reducible exact HKA.out _ (step_b2 (last4s (by assumption)) (below_alloc1 _ _)) | with_reducible exact HKA.out _ (step_g (last4s (by assumption)) hg3 ho2) | with_reducible exact HKA.out _ (step_g (last4s (by assumption)) hg2 ho1) | with_reducible exact HKA.out _ (step_g (last4s (by assumption)) hg1 hB0))
    (first
      | (refine step_append_sl _ (by rfl) (.tmp 3) (.tmp 5) 24 24 rfl 30 i0 (.agg #[.string ⟨#[]⟩, .int .u16 0, .int .u16 0, .int .u32 0, .string ⟨#[]⟩]) 5 40 Try.underlying24 hi0 hz0 hz1 hz2 rfl (.slice (some ⟨V.heap.size, 0, none⟩) 0 0) 0 [] rfl (sl_empty_n V.drew 30 5) (.slice m.sA m.s.length m.sc) rfl m.s.length (flatV RRec.vs m.s) (src_reads Try.underlying24 ((HIn.out _ (last4s (by assumption))).ts.reads RRec.five (by decide)) (rr_one _)) (by unfold maxLen; omega) (by omega) ?_; intro v1 w1 hs1 hg1 hv1; obtain ⟨A1, k1, rfl, hk1, hm1⟩ := hs1.shape; have ho1 : ∀ g, (Value.slice A1 (0 + m.s.length) k1).ownBlock = some g → V.heap.size ≤ g := own_from hB0 (by simp) hv1; have hq1 : V.heap.size ≤ w1.heap.size := by have h9 := hg1.size; simp at h9; omega)
      | (refine step_append_sl _ (by rfl) (.tmp 6) (.tmp 8) 24 24 rfl 30 i0 (.agg #[.string ⟨#[]⟩, .int .u16 0, .int .u16 0, .int .u32 0, .string ⟨#[]⟩]) 5 40 Try.underlying24 hi0 hz0 hz1 hz2 rfl (.slice A1 (0 + m.s.length) k1) (0 + m.s.length) ([] ++ flatV RRec.vs m.s) rfl hs1 (.slice m.hA m.h.length m.hc) rfl m.h.length (flatV RRec.vs m.h) (src_reads Try.underlying24 ((HIn.out _ (last4s (by assumption))).th.reads RRec.five (by decide)) (rr_one _)) (by unfold maxLen; omega) (by omega) ?_; intro v2 w2 hs2 hg2 hv2; obtain ⟨A2, k2, rfl, hk2, hm2⟩ := hs2.shape; have ho2 : ∀ g, (Value.slice A2 (0 + m.s.length + m.h.length) k2).ownBlock = some g → V.heap.size ≤ g := own_from ho1 hq1 hv2; have hq2 : V.heap.size ≤ w2.heap.size := Nat.le_trans hq1 hg2.size)
      | (refine step_append_sl _ (by rfl) (.tmp 9) (.tmp 11) 24 24 rfl 30 i0 (.agg #[.string ⟨#[]⟩, .int .u16 0, .int .u16 0, .int .u32 0, .string ⟨#[]⟩]) 5 40 Try.underlying24 hi0 hz0 hz1 hz2 rfl (.slice A2 (0 + m.s.length + m.h.length) k2) (0 + m.s.length + m.h.length) ([] ++ flatV RRec.vs m.s ++ flatV RRec.vs m.h) rfl hs2 (.slice m.eA m.e.length m.ec) rfl m.e.length (flatV RRec.vs m.e) (src_reads Try.underlying24 ((HIn.out _ (last4s (by assumption))).te.reads RRec.five (by decide)) (rr_one _)) (by unfold maxLen; omega) (by omega) ?_; intro v3 w3 hs3 hg3 hv3; obtain ⟨A3, k3, rfl, hk3, hm3⟩ := hs3.shape; have ho3 : ∀ g, (Value.slice A3 (0 + m.s.length + m.h.length + m.e.length) k3).ownBlock = some g → V.heap.size ≤ g := own_from ho2 hq2 hv3))
  all_goals
    have hB : Below V.heap.size V _ := (last4s (by assumption))
    have hn : 0 + m.s.length + m.h.length + m.e.length = L.length := by rw [← HL.out]; simp only [List.length_append]; omega
    have hf : [] ++ flatV RRec.vs m.s ++ flatV RRec.vs m.h ++ flatV RRec.vs m.e = flatV RRec.vs L := by rw [← HL.out, flatV_append, flatV_append]; simp
    rw [hf, hn] at hs3
    have hn2 : m.s.length + m.h.length + m.e.length = L.length := by omega
    rw [hn] at ho3 ⊢
    try rw [hn2]
    have HE := Lib.hid (And.intro hs3 (And.intro ho3 (HV.out.1.trans (hB.mono HV.out.1.size))))
    clear hB hn hn2 hf hs1 hs2 hs3 hg1 hg2 hg3 hv1 hv2 hv3 ho1 ho2 ho3 hk1 hk2 hk3 hm1 hm2 hm3
    go_wp2_with (fail)
    go_ret
    have hz := HV.out.1.size
    exact ⟨A3, k3, rfl, HE.out.1, fun g hg => by have := HE.out.2.1 g hg; omega, HE.out.2.2⟩
end Go.Proofs.Ythjkdpphbipgfaa
