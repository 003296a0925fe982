/- The walk of edns.Get, where it comes to options. Conditions: none. -/
import Derived.Test.YthjkdpphbipgfaaEdGet
import Derived.Test.YthjkdpphbipgfaaEdOpts
import Derived.Deep.DeepMust
import Derived.WalkMore
namespace Go.Proofs.Ythjkdpphbipgfaa
open Go.RowKit Go.Shelf Go.Lib
attribute [local go_sem] Oper.semAt_some

theorem Out.blkE {B X b : Nat} {A A' : World} {t : TypeId} {cs : Array Value} (h : Blk A b t cs) (ho : Out B X A A') (hb : b < B) : Blk A' b t cs :=
  (ho.block b h.lt (.inl hb)).trans h
theorem Out.belowE {B X N : Nat} {w A A' : World} (h : Below N w A) (ho : Out B X A A') (hN : N ≤ w.heap.size) (hB : N ≤ B) : Below N w A' :=
  ⟨ho.os.trans h.os, ho.tape.trans h.tape, ho.output.trans h.output, Nat.le_trans h.size ho.size, fun i hi => (ho.block i (Nat.lt_of_lt_of_le hi (Nat.le_trans hN h.size)) (.inl (by omega))).trans (h.block i hi)⟩
theorem prefix_ltE {α : Type} {pre L : List α} {x : α} (h : pre ++ [x] <+: L) : pre.length < L.length := by
  have := h.length_le
  simp at this; omega
theorem own_rowE {B : Nat} {w : World} {v v' : Value} (h : ∀ g, v.ownBlock = some g → B ≤ g) (hB : B ≤ w.heap.size) (hv : v'.ownBlock = v.ownBlock ∨ v'.ownBlock = some w.heap.size) : ∀ g, v'.ownBlock = some g → B ≤ g := by
  intro g hg
  rcases hv with e | e
  · exact h g (e.symm.trans hg)
  · rw [hg] at e
    have : g = w.heap.size := Option.some.inj e
    omega
/-- What stands between the rounds. -/
def GetI (w5 : World) (sz hi ve fl : Int) (X : Nat) (pre : List Opt) (V : World) : Prop :=
  ∃ v, Blk V (w5.heap.size + 1) 45 #[.bool true, .int .u16 sz, .int .u8 hi, .int .u8 ve, .int .u16 fl, v] ∧ Sl V 2 v pre.length (flatO pre) ∧ (∀ g, v.ownBlock = some g → X ≤ g) ∧ Below w5.heap.size w5 V ∧ X ≤ V.heap.size ∧ w5.heap.size + 3 ≤ X
/-- Where a message says one OPT record that is right. -/
structure OneOpt (m : MRec) (k : Nat) (r : RRec) (xs : List Opt) (sz hi ve fl : Int) : Prop where
  ns : m.s.any (RRec.is 41) = false
  nh : m.h.any (RRec.is 41) = false
  at_ : m.e[k]? = some r
  ix : idxP (RRec.is 41) m.e = k
  no : (m.e.drop (k + 1)).any (RRec.is 41) = false
  root : r.n = ⟨#[0]⟩
  cls : r.c = sz
  ttl : r.l = ttlE hi ve fl
  data : r.d.data.toList = optsB xs
  fits : ∀ o ∈ xs, o.fits
  len : r.d.size ≤ 100000 ∧ xs.length ≤ 1000
  bd : (0 ≤ hi ∧ hi ≤ 255) ∧ (0 ≤ ve ∧ ve ≤ 255) ∧ 0 ≤ fl ∧ fl ≤ 65535

set_option maxRecDepth 100000 in
set_option maxHeartbeats 8000000 in
theorem get_opt (m : MRec) (k : Nat) (r : RRec) (xs : List Opt) (sz hi ve fl : Int) (w : World) (hm : m.In w) (hl : m.s.length ≤ 4000 ∧ m.h.length ≤ 4000 ∧ m.e.length ≤ 4010 ∧ m.e.length ≤ m.ec ∧ m.ec ≤ maxLen) (h : OneOpt m k r xs sz hi ve fl) :
    Calls Try.prog 27 #[m.val] w fun e w' => ∃ A c, e = .returned (.tuple #[ednsV true sz hi ve fl A xs.length c, .int .i64 0]) ∧ OTab w' A xs ∧ Below w.heap.size w w' ∧ Sl w' 2 (.slice A xs.length c) xs.length (flatO xs) ∧ ∀ g, (Value.slice A xs.length c).ownBlock = some g → w.heap.size ≤ g := by
  obtain ⟨n, hn⟩ : ∃ n : Nat, 8 ≤ n := ⟨8, by omega⟩
  refine (callsIn_wide (n := n)).1 ?_
  have h1n : 1 ≤ n := by omega
  have HM := Lib.hid (And.intro hm hl)
  have H := Lib.hid h
  clear hm hl h
  dsimp only [MRec.val]
  have hV0 := getV_new m w
  refine callsIn_of_wp_marks Try.func27 rfl trivial ?_ rfl
  simp only [Try.ntmps27, List.size_toArray, List.length_cons, List.length_nil, Nat.reduceAdd, Nat.reduceSub, Array.replicate_succ, Array.replicate_zero, List.push_toArray, List.append_toArray, List.nil_append, List.cons_append]
  gi_wp2_with (fail)
  generalize ((w.alloc (.cells #[.int .u16 m.id, .int .u16 m.bi, .slice m.qA m.q.length m.qc, .slice m.sA m.s.length m.sc, .slice m.hA m.h.length m.hc, .slice m.eA m.e.length m.ec] 26)).alloc (.cells #[.bool false, .int .u16 0, .int .u8 0, .int .u8 0, .int .u16 0, .slice none 0 0] 45)).alloc (.cells #[.int .i64 0] 47) = V at hV0 ⊢
  refine ⟨trivial, ((callsIn_wide (n := n - 1)).2 (typed_any 41 _)).mono ?_⟩
  rintro e w1 ⟨rfl, rfl⟩
  have hV1 := hV0.below (below_allocE V (.cells #[.int .u16 41] 27))
  have hc := cell_newE V (.int .u16 41) 27
  have hBl := ltA1 V (.cells #[.int .u16 41] 27)
  generalize V.alloc (.cells #[.int .u16 41] 27) = U at hV1 hc hBl ⊢
  obtain ⟨B, hB⟩ : ∃ B, V.heap.size = B := ⟨_, rfl⟩
  rw [hB] at hc hBl ⊢
  have hsz := hV1.sz
  have m3 := hV1.m0.cell 3
  have HC := Lib.hid (fun (xs : List RRec) (A : Option Addr) (k : Nat) (W : World) (hW : Below U.heap.size U W) (hT : RTab W A xs) (hx : xs.length ≤ 1000000) => (callsIn_wide (n := n - 1)).2 (containsR_any xs A k 41 B W hT (Nat.lt_of_lt_of_le hBl hW.size) ((hW.cell (p := ⟨B, 0, none⟩) hBl).trans hc) hx))
  have HI := Lib.hid (fun (xs : List RRec) (A : Option Addr) (k : Nat) (W : World) (hW : Below U.heap.size U W) (hT : RTab W A xs) (hx : xs.length ≤ 1000000) => (callsIn_wide (n := n - 1)).2 (indexR_any xs A k 41 B W hT (Nat.lt_of_lt_of_le hBl hW.size) ((hW.cell (p := ⟨B, 0, none⟩) hBl).trans hc) (by omega)))
  have HS := Lib.hid (HC.out m.s m.sA m.sc U (Below.refl _ _) (HM.out.1.below hV1.b).ts (by have := HM.out.2.1; omega))
  rw [H.out.ns] at HS
  have HV := Lib.hid hV1
  clear hV0 hV1 hc
  gi_wp2_with (fail)
  refine ⟨trivial, HS.out.mono ?_⟩
  rintro e w2 ⟨rfl, hb2⟩
  have hV2 := HV.out.below hb2
  have m4 := hV2.m0.cell 4
  have hsz2 := hV2.sz
  have HH := Lib.hid (HC.out m.h m.hA m.hc w2 hb2 (HM.out.1.below hV2.b).th (by have := HM.out.2.2.1; omega))
  rw [H.out.nh] at HH
  have HV2 := Lib.hid (And.intro hV2 hb2)
  clear hV2 hb2 m3
  gi_wp2_with (fail)
  refine ⟨trivial, HH.out.mono ?_⟩
  rintro e w3 ⟨rfl, hb3⟩
  have hV3 := HV2.out.1.below hb3
  have m5 := hV3.m0.cell 5
  have hsz3 := hV3.sz
  have HE := Lib.hid (HI.out m.e m.eA m.ec w3 (belowT HV2.out.2 hb3) (HM.out.1.below hV3.b).te (by have := HM.out.2.2.2.1; omega))
  rw [H.out.ix] at HE
  have HV3 := Lib.hid (And.intro hV3 (belowT HV2.out.2 hb3))
  clear hV3 hb3 m4 HV2
  have hk : k < m.e.length := (List.getElem?_eq_some_iff.1 H.out.at_).1
  obtain ⟨b, off, hA, hbl, hcl⟩ := (HM.out.1.te) (by omega)
  have hml := HM.out.2.2.2
  unfold maxLen at hml
  have hkI : (k : Int) < (m.e.length : Int) := by omega
  have hlI : (m.e.length : Int) ≤ 4010 := by omega
  have hcI : (m.e.length : Int) ≤ (m.ec : Int) := by omega
  have hcI2 : (m.ec : Int) ≤ 9223372036854775807 := by omega
  have HA := Lib.hid hA
  rw [hA] at HE m5 ⊢
  clear hk hA hbl hcl hml
  gi_wp2_with (fail)
  refine ⟨trivial, HE.out.mono ?_⟩
  rintro e w4 ⟨rfl, hb4⟩
  have hV4 := HV3.out.1.below hb4
  have m5' := hV4.m0.cell 5
  rw [HA.out] at m5'
  have hsz4 := hV4.sz
  have hte := (HM.out.1.below hV4.b).te
  rw [HA.out] at hte
  have hlen : (m.e.drop (k + 1)).length = m.e.length - (k + 1) := List.length_drop
  have hDc : ∀ X c, Below U.heap.size U w4 → RTab w4 X (m.e.drop (k + 1)) → _ := fun X c hW hT => HC.out (m.e.drop (k + 1)) X c w4 hW hT (by rw [hlen]; have := HM.out.2.2.2.1; omega)
  rw [H.out.no, hlen] at hDc
  have HD := Lib.hid (And.intro hDc (And.intro (belowT HV3.out.2 hb4) (And.intro hte hV4)))
  clear hte hDc hV4 hb4 hlen m5
  by_cases hcap : m.ec - (k + 1) = 0
  case' pos =>
    have hnil : m.e.drop (k + 1) = [] := List.drop_eq_nil_of_le (by omega)
    have HN := Lib.hid hnil
    clear hnil
    gi_wp2_with (fail)
    refine ⟨trivial, (HD.out.1 _ _ HD.out.2.1 (by rw [HN.out]; exact RTab.nil_)).mono ?_⟩
  case' neg =>
    gi_wp2_with (fail)
    refine ⟨trivial, (HD.out.1 _ _ HD.out.2.1 (rtab_drop HD.out.2.2.1 (k + 1))).mono ?_⟩
  all_goals
    rintro e w5 ⟨rfl, hb5⟩
    have hV5 := HD.out.2.2.2.below hb5
    have m55 := hV5.m0.cell 5
    rw [HA.out] at m55
    have hsz5 := hV5.sz
    have hte5 := (HM.out.1.below hV5.b).te
    rw [HA.out] at hte5
    obtain ⟨b', off', hA', hbl, d0, d1, d2, d3, d4⟩ := hte5.cells H.out.at_
    injection hA' with hA'
    injection hA' with q1 q2 _
    subst q1 q2
    rw [H.out.root] at d0
    rw [H.out.cls] at d2
    rw [H.out.ttl] at d3
    obtain ⟨T, hT⟩ : ∃ T, ttlE hi ve fl = T := ⟨_, rfl⟩
    have hTb : 0 ≤ T ∧ T ≤ 4294967295 ∧ T / 16777216 % 256 = hi ∧ T / 65536 % 256 = ve ∧ T % 65536 = fl := by
      have := H.out.bd
      unfold ttlE at hT
      omega
    rw [hT] at d3
    have HT := Lib.hid hT
    have HTB := Lib.hid hTb
    obtain ⟨dd, hdd⟩ : ∃ dd, r.d = dd := ⟨_, rfl⟩
    rw [hdd] at d4
    have HDD := Lib.hid hdd
    have HV5 := Lib.hid (And.intro hV5 hb5)
    obtain ⟨-, -, t1, t2, t3⟩ := hTb
    have t4 : IntKind.u16.wrap T = fl := by rw [IntKind.wrap_u16]; omega
    clear hV5 hb5 hte5 m5' hT hdd hcap
    gi_wp2_with (fail)
    refine ⟨trivial, (options_in (n - 1) dd _).mono ?_⟩
    rintro e w6 ⟨rfl, rfl⟩
    gi_wp2_with (fail)
    obtain ⟨W0, hW0⟩ : ∃ W0, ((w5.alloc (.cells #[.string ⟨#[0]⟩, .int .u16 r.t, .int .u16 sz, .int .u32 T, .string dd] 30)).alloc (.cells #[.bool true, .int .u16 sz, .int .u8 hi, .int .u8 ve, .int .u16 fl, .slice none 0 0] 45)).alloc (.cells #[.string dd] 9) = W0 := ⟨_, rfl⟩
    have hsz0 : W0.heap.size = w5.heap.size + 3 := by rw [← hW0]; simp
    have hbW : Below w5.heap.size w5 W0 := by rw [← hW0]; exact (((Below.refl _ _).alloc (Nat.le_refl _) _).alloc (by simp) _).alloc (by simp; omega) _
    have heb : Blk W0 (w5.heap.size + 1) 45 #[.bool true, .int .u16 sz, .int .u8 hi, .int .u8 ve, .int .u16 fl, .slice none 0 0] := by
      rw [← hW0]
      have := Blk.new (w5.alloc (.cells #[.string ⟨#[0]⟩, .int .u16 r.t, .int .u16 sz, .int .u32 T, .string dd] 30)) 45 #[.bool true, .int .u16 sz, .int .u8 hi, .int .u8 ve, .int .u16 fl, .slice none 0 0]
      rw [World.size_alloc] at this
      exact this.alloc _
    have hdb : Blk W0 (w5.heap.size + 2) 9 #[.string dd] := by
      rw [← hW0]
      have := Blk.new ((w5.alloc (.cells #[.string ⟨#[0]⟩, .int .u16 r.t, .int .u16 sz, .int .u32 T, .string dd] 30)).alloc (.cells #[.bool true, .int .u16 sz, .int .u8 hi, .int .u8 ve, .int .u16 fl, .slice none 0 0] 45)) 9 #[.string dd]
      rw [World.size_alloc, World.size_alloc] at this
      exact this
    rw [hW0]
    clear hW0
    obtain ⟨i0, hi0, hz0, hz1, hz2⟩ := info_parts info_opt
    have HX := Lib.hid (And.intro heb (And.intro hdb (And.intro hbW hsz0)))
    clear hbl d0 d1 d2 d3 d4 m55 t1 t2 t3 t4
    apply rangeMA (gf := 91) (lb := #[.pointer (some ⟨w5.heap.size + 2, 0, none⟩)]) rfl (enters_of Try.func91 (by kernel_rfl) rfl)
      (options1_M (w5.heap.size + 2) dd xs (by rw [← HDD.out]; exact H.out.data) H.out.fits (by rw [← HDD.out]; have := H.out.len; omega) W0 hdb) (by omega) (Below.refl _ _) (fun _ => rfl)
      (GetI w5 sz hi ve fl)
      (fun _ _ _ _ => False)
      ?hI (fun _ _ _ _ _ h => h.elim) ?h0 (fun x => .cells #[.int .u16 x.c, .string x.d] 92)
    case hI =>
      rintro X pre A A' ⟨v, h1, h2, h3, h4, h5, h6⟩ ho
      exact ⟨v, ho.blkE h1 (by omega), h2.keep ho.size fun g hg => ho.block g (h2.lt g hg) (.inr (h3 g hg)), h3, ho.belowE h4 (Nat.le_refl _) (by omega), Nat.le_trans h5 ho.size, h6⟩
    case h0 =>
      intro X V hV hX
      exact ⟨_, (hV.block _ (by omega)).trans heb, Sl.nil _ _, fun g hg => by simp [Value.ownBlock] at hg, hbW.trans (hV.mono hbW.size), by omega, by have := hV.size; omega⟩
    case hassign =>
      intro l x V g K hg hK
      gi_wp2
      rw [← hg]
      exact hK
    case hbody =>
      rintro l X pre x g V hgg hV hG ⟨v, h1, h2, h3, h4, h5, h6⟩ hpre
      obtain ⟨A, c, rfl, hc1, hc2⟩ := h2.shape
      have hG' : Blk V g 92 #[.int .u16 x.c, .string x.d] := hG
      have c5 : V.cell? ⟨w5.heap.size + 1, 5, none⟩ = some (.slice A pre.length c) := h1.cell 5
      have p5 := h1.frozen 5
      have e0 := hG'.cell 0
      have e1 := hG'.cell 1
      have hlen := prefix_ltE hpre
      have hxl := H.out.len.2
      have hl1 : w5.heap.size + 1 < V.heap.size := h1.lt
      have HSL := Lib.hid (h2.alloc (.cells #[.int .u16 x.c, .string x.d] 92))
      have HSR := Lib.hid (src_two (P := Try.prog) Try.underlying43 V 92 (.int .u16 x.c) (.string x.d) rfl rfl)
      have HV := Lib.hid (And.intro h1 (And.intro h2 (And.intro h3 (And.intro h4 (And.intro h5 (And.intro h6 (And.intro hV hgg)))))))
      clear hpre h1 h2 h3 h4 h5 h6 hG hG' hV hgg heb hdb hbW
      gi_wp2_with (gi_at_builtin; go_must (refine wpListIn_append_sl _ rfl (.tmp 69) (.tmp 71) 43 43 rfl 92 i0 (.agg #[.int .u16 0, .string ⟨#[]⟩]) 2 24 Try.underlying43 hi0 hz0 hz1 hz2 rfl (.slice A pre.length c) pre.length (flatO pre) rfl HSL.out _ rfl 1 [.int .u16 x.c, .string x.d] HSR.out (by unfold maxLen; omega) (by omega) ?_); intro v3 w3 hs3 hg3 hv3; obtain ⟨A3, c3, rfl, hc3, hm3⟩ := hs3.shape; have hx := HV.out; have k1 := (hx.1.alloc (.cells #[.int .u16 x.c, .string x.d] 92)).grown hg3 (fun e => by have := hx.2.2.1 _ e.symm; have := hx.2.2.2.2.2.1; omega); have g5 := k1.cell 5; have p5' := k1.frozen 5; have H3 := Lib.hid (And.intro hs3 (And.intro hg3 (And.intro hv3 k1))); clear hs3 hg3 hv3 k1 hx hc3 hm3)
      obtain ⟨h1, h2, h3, h4, h5, h6, hV, hgV⟩ := HV.out
      obtain ⟨hs3, hg3, hv3, k1⟩ := H3.out
      have hrow : ∀ i, (Value.slice A pre.length c).ownBlock = some i → (i < W0.heap.size ∨ X ≤ i) ∧ (i < w5.heap.size + 2 ∨ w5.heap.size + 2 + 1 ≤ i) := fun i hi => by have := h3 i hi; omega
      refine ⟨((((KeepX.refl _ _ _ _ V).alloc _).grown hg3 hrow).trans (.cell _ (by show (w5.heap.size + 1 < _ ∨ _) ∧ (w5.heap.size + 1 < _ ∨ _); omega))), _, k1.set_ 5 _, ?_, ?_, ?_, ?_, h6⟩
      · rw [List.length_append, show flatO (pre ++ [x]) = flatO pre ++ [.int .u16 x.c, .string x.d] by rw [flatO_append]; rfl]
        refine hs3.far (p := ⟨w5.heap.size + 1, 5, none⟩) (fun g hg => ?_) _
        have := own_rowE h3 (by simp; omega) hv3 g hg
        show g ≠ w5.heap.size + 1
        omega
      · exact own_rowE h3 (by simp; omega) hv3
      · exact (((h4.alloc (by omega) _).grown hg3 (by simp; omega) (fun g hg => by have := h3 g hg; omega))).setCell (by show w5.heap.size ≤ w5.heap.size + 1; omega) _
      · have := hg3.size
        simp [World.setCell] at this ⊢
        omega
    case hdone =>
      rintro D X V hD hD2 ⟨v, h1, h2, h3, h4, h5, h6⟩ hK
      obtain ⟨A, c, rfl, hc1, hc2⟩ := h2.shape
      have c0 := h1.cell 0
      have c1 := h1.cell 1
      have c2 := h1.cell 2
      have c3 := h1.cell 3
      have c4 := h1.cell 4
      have c5 := h1.cell 5
      have hVf := HV5.out.1.below h4
      obtain ⟨⟨r0, r1, r2, r3, r4, r5, r6⟩, f0, f1, f2, f3, f4, f5, f6⟩ := hVf.cells
      have HF := Lib.hid (And.intro hVf (And.intro h2 (And.intro h3 (And.intro hK (And.intro hD (And.intro hD2 h6))))))
      clear h1 h2 h3 h4 h5 h6 hc1 hc2 hVf
      gi_wp2_with (fail)
      have hd := HF.out.1.done (.bool true) (.int .u16 sz) (.int .u8 hi) (.int .u8 ve) (.int .u16 fl) (.slice A xs.length c) (.int .i64 0)
      obtain ⟨hVf, h2, h3, hK, hD, hD2, h6⟩ := HF.out
      have hszV := HV5.out.1.sz
      generalize ((((((V.setCell ⟨w.heap.size + 1, 0, none⟩ (.bool true)).setCell ⟨w.heap.size + 1, 1, none⟩ (.int .u16 sz)).setCell ⟨w.heap.size + 1, 2, none⟩ (.int .u8 hi)).setCell ⟨w.heap.size + 1, 3, none⟩ (.int .u8 ve)).setCell ⟨w.heap.size + 1, 4, none⟩ (.int .u16 fl)).setCell ⟨w.heap.size + 1, 5, none⟩ (.slice A xs.length c)).setCell ⟨w.heap.size + 1 + 1, 0, none⟩ (.int .i64 0) = F at hd ⊢
      have hKF : F.heap[D]? = some (.deferred (some [])) := (hd.2.2.block D ⟨by omega, by omega⟩).trans hK
      have b0 : Blk (F.putObj D (.deferred none)) (w.heap.size + 1) 45 _ := (World.putObj_heap_other (by omega)).trans hd.1
      have b1 : Blk (F.putObj D (.deferred none)) (w.heap.size + 1 + 1) 47 _ := (World.putObj_heap_other (by omega)).trans hd.2.1
      have hbF : Below w.heap.size w F := ((KeepK.of_below (K := fun i => i < w.heap.size) hVf.b fun i hi => hi).trans (hd.2.2.mono fun i hi => by omega)).below fun i hi => hi
      have hsl : Sl (F.putObj D (.deferred none)) 2 (.slice A xs.length c) xs.length (flatO xs) :=
        (h2.keepK hd.2.2 fun g hg => by have := h3 g hg; omega).keep (by simp) fun g hg => World.putObj_heap_other (by have := h3 g hg; omega)
      refine ⟨by simp, .inl ⟨_, _, rfl, run_takeDeferred hKF, _, res_cell_cellE rfl _ _ (w.heap.size + 1) 45 _ _ ⟨w.heap.size + 1 + 1, 0, none⟩ (.int .i64 0) rfl b0 Try.underlying45 rfl agg_edns rfl (load_errno _ _ _ (b1.cell 0)), A, c, rfl, otab_of_sl hsl (fun o ho => ?_), ?_, hsl, fun g hg => ?_⟩⟩
      · have := H.out.fits o ho
        exact ⟨this.1, by have := this.2; unfold maxLen; omega⟩
      · exact hbF.trans (belowK_b (w := w) (Nat.le_refl _) F D _ _ (by omega) hKF rfl rfl)
      · have := h3 g hg; omega
    case hstop =>
      rintro D X c pre V hD _ _ h _
      exact h.elim
end Go.Proofs.Ythjkdpphbipgfaa
